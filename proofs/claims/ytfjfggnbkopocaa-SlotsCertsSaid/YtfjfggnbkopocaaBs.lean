/- Slots: the certificates of a log, by numbers. -/
import Derived.Test.YtfjfggnbkopocaaBn
/- Certificates. -/
set_option linter.unusedVariables false
set_option linter.unusedSimpArgs false
namespace Go.Proofs.Ytfjfggnbkopocaa
open Go.RowKit Go.Proofs.YtfjfggnbkopocaaW.PrintWords PSlotsTwo
attribute [local go_sem] ptr

/-- The numbers of the window. -/
def winL (low : Int) (n : Nat) : List Int := (List.range n).map fun d : Nat => low + ((d : Int) + 1)
theorem win_up (low : Int) (n : Nat) : (winL low n).Pairwise (fun x y => x < y) := by
  unfold winL
  rw [List.pairwise_map]
  exact List.pairwise_lt_range.imp (fun {a b} h => by omega)
theorem win_mem {low q : Int} : q ∈ winL low 8 ↔ low < q ∧ q ≤ low + 8 := by
  unfold winL
  rw [List.mem_map]
  constructor
  · rintro ⟨d, hd, rfl⟩
    have := List.mem_range.1 hd
    omega
  · intro h
    refine ⟨(q - low - 1).toNat, List.mem_range.2 (by omega), ?_⟩
    show low + (((q - low - 1).toNat : Int) + 1) = q
    omega
theorem getQ_mem {L : List (Int × SlotM)} {q : Int} : (∃ s, getQ L q = some s) ↔ q ∈ L.map (·.1) := by
  unfold getQ
  constructor
  · rintro ⟨s, hs⟩
    rw [Option.map_eq_some_iff] at hs
    obtain ⟨p, hp, rfl⟩ := hs
    have h1 := List.mem_of_find?_eq_some hp
    have h2 : p.1 = q := by simpa using List.find?_some hp
    exact List.mem_map.2 ⟨p, h1, h2⟩
  · intro h
    obtain ⟨p, hp, rfl⟩ := List.mem_map.1 h
    cases hf : L.find? fun x => x.1 == p.1 with
    | none =>
      rw [List.find?_eq_none] at hf
      exact absurd (by simp) (hf p hp)
    | some y => exact ⟨y.2, rfl⟩
theorem certs_win {f : Int} {M : LM} (h : Inv f M) {r : List Int} (hp : r.Perm (M.L.map (·.1))) (hu : Up r) : certsOf M.L r = (winL M.low 8).filterMap (certQ M.L) := by
  have hmem : ∀ q, q ∈ r ↔ q ∈ M.L.map (·.1) := fun q => hp.mem_iff
  have hsub : ∀ q, q ∈ r → q ∈ winL M.low 8 := fun q hq => by
    obtain ⟨p, hp1, rfl⟩ := List.mem_map.1 ((hmem q).1 hq)
    exact win_mem.2 (h.ok.win p hp1)
  have hnr : r.Nodup := hp.nodup_iff.2 h.ok.nodup
  have hnw : (winL M.low 8).Nodup := (win_up _ _).imp (fun {a b} h e => by omega)
  have e1 : r = (winL M.low 8).filter (fun q => decide (q ∈ r)) := by
    refine List.Perm.eq_of_pairwise (le := fun a b => a ≤ b) (fun a b _ _ h1 h2 => Int.le_antisymm h1 h2) hu (((win_up _ _).imp (fun {a b} h => Int.le_of_lt h)).filter _) ?_
    refine (List.perm_ext_iff_of_nodup hnr (hnw.filter _)).2 (fun q => ?_)
    rw [List.mem_filter]
    constructor
    · intro hq
      exact ⟨hsub q hq, by simpa using hq⟩
    · rintro ⟨_, hq⟩
      simpa using hq
  unfold certsOf
  conv => lhs; rw [e1]
  rw [List.filterMap_filter]
  congr 1
  funext q
  by_cases hq : q ∈ r
  · simp [hq]
  · have hn : getQ M.L q = none := by
      cases hg : getQ M.L q with
      | none => rfl
      | some s => exact absurd ((hmem q).2 (getQ_mem.1 ⟨s, hg⟩)) hq
    simp [hq, certQ, hn]
/-- How many certificates the first numbers have. -/
def cntW (M : LM) (d : Nat) : Nat := ((winL M.low d).filterMap (certQ M.L)).length
theorem win_succ (low : Int) (d : Nat) : winL low (d + 1) = winL low d ++ [low + ((d : Int) + 1)] := by
  unfold winL
  rw [List.range_succ, List.map_append]
  rfl
theorem win_split (low : Int) : ∀ k d, d + k = 8 → ∃ B, winL low 8 = winL low d ++ B
  | 0, d, h => ⟨[], by rw [show d = 8 by omega]; simp⟩
  | k + 1, d, h => by
    obtain ⟨B, hB⟩ := win_split low k (d + 1) (by omega)
    exact ⟨[low + ((d : Int) + 1)] ++ B, by rw [hB, win_succ, List.append_assoc]⟩
theorem certQ_best (M : LM) (q : Int) : certQ M.L q = (bestV M q).map (·.texts) := rfl
theorem cnt_none {M : LM} {d : Nat} (h : bestV M (M.low + ((d : Int) + 1)) = none) : cntW M (d + 1) = cntW M d := by
  unfold cntW
  rw [win_succ, List.filterMap_append]
  simp [certQ_best, h]
theorem cnt_some {M : LM} {d : Nat} {c : CertM} (h : bestV M (M.low + ((d : Int) + 1)) = some c) : cntW M (d + 1) = cntW M d + 1 := by
  unfold cntW
  rw [win_succ, List.filterMap_append]
  simp [certQ_best, h]
theorem cnt_at {M : LM} {d : Nat} {c : CertM} (hd : d < 8) (h : bestV M (M.low + ((d : Int) + 1)) = some c) : ((winL M.low 8).filterMap (certQ M.L))[cntW M d]? = some c.texts := by
  obtain ⟨B, hB⟩ := win_split M.low (7 - d) (d + 1) (by omega)
  rw [hB, win_succ, List.filterMap_append, List.filterMap_append]
  unfold cntW
  rw [List.append_assoc, List.getElem?_append_right (Nat.le_refl _), Nat.sub_self]
  simp [certQ_best, h]
theorem N14_any {f : Int} (h1 : 1 ≤ f) (h4 : f ≤ 4) (w : World) : Calls Try.prog 35 #[.int .i64 f] w fun e w' => e = .returned (.int .i64 (3 * f + 1)) ∧ w' = w := by
  have b1 : decide (f < 1) = false := df (by omega)
  have b2 : decide (f > 4) = false := df (by omega)
  have e1 : wrap64 (3 * f) = 3 * f := Go.IntWalk.wrap64_in _ (by omega)
  have e2 : wrap64 (3 * f + 1) = 3 * f + 1 := Go.IntWalk.wrap64_in _ (by omega)
  go_enter Try.func35, Try.ntmps35
  go_wp2_with fail
  go_ret
  exact ⟨rfl, rfl⟩
theorem Primary14_any {v f : Int} (h1 : 1 ≤ f) (h4 : f ≤ 4) (h0 : 0 ≤ v) (w : World) : Calls Try.prog 17 #[.int .u64 v, .int .i64 f] w fun e w' => e = .returned (.int .u64 (prim v f)) ∧ w' = w := by
  have HF := Aside0.mk (And.intro h1 h4)
  have b1 : (3 * f + 1 == 0) = false := beq_eq_false_iff_ne.2 (by omega)
  have e1 : IntKind.u64.wrap (3 * f + 1) = 3 * f + 1 := u64 (by omega)
  have HP : Aside0 (IntKind.u64.wrap (1 + v.tmod (3 * f + 1)) = prim v f ∧ IntKind.u64.wrap (1 + v % (3 * f + 1)) = prim v f) := ⟨by
    have h5 := Int.emod_nonneg v (show (3 * f + 1) ≠ 0 by omega)
    have h6 := Int.emod_lt_of_pos v (show 0 < 3 * f + 1 by omega)
    have h7 : IntKind.u64.wrap (1 + v % (3 * f + 1)) = prim v f := by
      unfold prim
      exact u64 (by omega)
    exact ⟨by rw [Int.tmod_eq_emod_of_nonneg h0]; exact h7, h7⟩⟩
  clear h1 h4
  go_enter Try.func17, Try.ntmps17
  go_wp2_with fail
  refine (N14_any HF.out.1 HF.out.2 w).mono ?_
  rintro e w1 ⟨rfl, rfl⟩
  go_wp2_with fail
  refine (N14_any HF.out.1 HF.out.2 w1).mono ?_
  rintro e w2 ⟨rfl, rfl⟩
  go_wp2_with fail
  go_ret
  exact ⟨by rw [← HP.out.2]; rfl, rfl⟩
theorem row_at {w : World} {A : Option Addr} {c : Nat} {cs : List (List Sig)} (h : kL.R 44 w 0 tr (.slice A cs.length c) cs) (i : Nat) {ts : List Sig} (hi : cs[i]? = some ts) : ∃ ad A2 c2, A = some ad ∧ w.cell? (ad.add i) = some (.slice A2 ts.length c2) ∧ kS.C w A2 ts.length ts := by
  obtain ⟨hlt, he⟩ := List.getElem?_eq_some_iff.1 hi
  have hC := (Kd.R_reads' h).2.2
  obtain ⟨ad, c1, e, _, hK, hc0⟩ := Kd.C_get hC [] (i : Int) (by omega) (by omega)
  have e1 : cs.getD (i : Int).toNat [] = ts := by
    rw [Int.toNat_natCast, List.getD_eq_getElem?_getD, hi]
    rfl
  rw [e1] at hK
  rw [Int.toNat_natCast] at hc0
  have hc : ∀ t u, c1[t]? = some u → w.cell? (ad.add (i * 1 + t)) = some u := hc0
  obtain ⟨A2, c2, rfl, _, hC2⟩ := hK
  exact ⟨ad, A2, c2, e, by have := hc 0 _ rfl; rwa [Nat.mul_one, Nat.add_zero] at this, hC2⟩
theorem sig_at {w : World} {A : Option Addr} {l : List Sig} (h : kS.C w A l.length l) (j : Nat) (hj : j < l.length) : ∃ ad A2 c2, A = some ad ∧ w.cell? (ad.add (j * 3)) = some (.int .u64 l[j].from_) ∧ w.cell? ⟨(ad.add (j * 3)).block, (ad.add (j * 3)).off + 2, none⟩ = some (.slice A2 l[j].tag.length c2) ∧ l[j].tag.length ≤ c2 ∧ kB.C w A2 l[j].tag.length l[j].tag := by
  obtain ⟨ad, c1, e, _, hK, hc0⟩ := Kd.C_get h ⟨0, [], []⟩ (j : Int) (by omega) (by omega)
  have e1 : l.getD (j : Int).toNat ⟨0, [], []⟩ = l[j] := by
    rw [Int.toNat_natCast, List.getD_eq_getElem?_getD, List.getElem?_eq_getElem hj]
    rfl
  rw [e1] at hK
  rw [Int.toNat_natCast] at hc0
  have hc : ∀ t u, c1[t]? = some u → w.cell? (ad.add (j * 3 + t)) = some u := hc0
  obtain ⟨_, _, rfl, rfl, ⟨_, _, rfl, ⟨A1, c1', rfl, _, _⟩, ⟨A2, c2, rfl, hl, hC2⟩⟩⟩ := hK
  exact ⟨ad, A2, c2, e, hc 0 _ rfl, by rw [← add_field _ _ 2 (by omega)]; exact hc 2 _ rfl, hl, hC2⟩
/-- What a certificate's texts are. -/
theorem cert_texts {f : Int} {c : CertM} (h : certI f c) : (c.texts.length : Int) = 2 * f + 1 ∧ (∀ h0 : 0 < c.texts.length, c.texts[0].from_ = prim c.view f) ∧ (∀ j (hj : j < c.texts.length), c.texts[j].tag = c.sum) ∧
    (∀ j (hj : j < c.texts.length) (h0 : 0 < c.texts.length), 0 < j → c.texts[j].from_ ≠ c.texts[0].from_) ∧ ∀ j (hj : j + 1 < c.texts.length), 0 < j → c.texts[j].from_ < c.texts[j + 1].from_ := by
  obtain ⟨g, ts, e, hl, hg, ht, hs, hn⟩ := h
  obtain ⟨v, sm, tx⟩ := c
  simp only at e hg ht ⊢
  subst e
  refine ⟨by simp; omega, fun _ => hg, fun j hj => ht _ (List.getElem_mem hj), fun j hj h0 hpos => ?_, fun j hj hpos => ?_⟩
  · obtain ⟨k, rfl⟩ : ∃ k, j = k + 1 := ⟨j - 1, by omega⟩
    simp only [List.getElem_cons_succ, List.getElem_cons_zero]
    exact hn _ (List.getElem_mem _)
  · obtain ⟨k, rfl⟩ : ∃ k, j = k + 1 := ⟨j - 1, by omega⟩
    simp only [List.getElem_cons_succ]
    exact (List.pairwise_iff_getElem.1 hs) k (k + 1) (by simp at hj; omega) (by simp at hj; omega) (by omega)
end Go.Proofs.Ytfjfggnbkopocaa
