/- Words and walks for Split and Tablet: texts of these sessions, and of the kit's print, cut down to what is used (S2 T2). -/
import Derived.Test.YtpckachmleonlaaGreatDoorCv25
section
set_option linter.unusedVariables false
set_option linter.unusedSimpArgs false
namespace Go.Proofs.YtpckachmleonlaaGreatDoor
open Go.RowKit Go.Proofs.YtpckachmleonlaaGreatDoorW.PrintWords
abbrev kC := PSplitCuts.k49
def PredC (g : Nat) (lb : Array Value) (p : CellM → Bool) (w : World) : Prop := ∀ (W : World) (x : CellM) (V : Option Addr) (c : Nat), Below w.heap.size w W → Calls Tryz.prog g (#[cellV x V c] ++ lb) W fun e w' => e = .returned (.bool (p x)) ∧ Below w.heap.size w w'
def idxC (p : CellM → Bool) (xs : List CellM) : Int := if xs.findIdx p < xs.length then (xs.findIdx p : Int) else -1
theorem idxC_hit {p : CellM → Bool} {xs : List CellM} {k : Nat} (hk : k < xs.length) (h : p (PSplitCuts.zBd xs k) = true) (ha : ∀ j : Nat, j < k → p (PSplitCuts.zBd xs j) = false) : idxC p xs = k := by
  have e : xs.findIdx p = k := by
    refine (List.findIdx_eq hk).2 ⟨?_, fun j hj => ?_⟩
    · simpa [PSplitCuts.zBd, List.getD_eq_getElem?_getD, List.getElem?_eq_getElem hk] using h
    · have := ha j hj
      simpa [PSplitCuts.zBd, List.getD_eq_getElem?_getD, List.getElem?_eq_getElem (Nat.lt_trans hj hk)] using this
  simp [idxC, e, hk]
theorem idxC_miss {p : CellM → Bool} {xs : List CellM} (ha : ∀ j : Nat, j < xs.length → p (PSplitCuts.zBd xs j) = false) : idxC p xs = -1 := by
  have e : xs.findIdx p = xs.length := by
    refine List.findIdx_eq_length.2 fun x hx => ?_
    obtain ⟨j, hj, rfl⟩ := List.getElem_of_mem hx
    have := ha j hj
    simpa [PSplitCuts.zBd, List.getD_eq_getElem?_getD, List.getElem?_eq_getElem hj] using this
  simp [idxC, e]
theorem idxC_any (p : CellM → Bool) (xs : List CellM) : decide (0 ≤ idxC p xs) = xs.any p := by
  unfold idxC
  by_cases h : xs.findIdx p < xs.length
  · have h2 := List.findIdx_getElem (p := p) (w := h)
    rw [if_pos h, List.any_eq_true.2 ⟨_, List.getElem_mem h, h2⟩]
    simp
  · rw [if_neg h]
    have h2 := List.findIdx_eq_length.1 (Nat.le_antisymm List.findIdx_le_length (Nat.le_of_not_lt h))
    have : xs.any p = false := List.any_eq_false.2 (fun x hx => by rw [h2 x hx]; simp)
    rw [this]
    decide
set_option maxHeartbeats 4000000 in
set_option maxRecDepth 100000 in
theorem idx_any (g : Nat) (lb : Array Value) (eg : ∀ args w, (callFunc g args).run Tryz.prog w = .ok (.enter g args) w) (p : CellM → Bool) (xs : List CellM) (A : Option Addr) (c : Nat) (w : World) (hC : kC.C w A xs.length xs) (hl : xs.length ≤ 100000) (hp : PredC g lb p w) :
    Calls Tryz.prog 93 #[.slice A xs.length c, .func (.func g) #[] lb] w fun e w' => e = .returned (.int .i64 (idxC p xs)) ∧ Below w.heap.size w w' := by
  have HC := zAa.mk hC
  have HP := zAa.mk hp
  obtain ⟨n, hn⟩ : ∃ n, xs.length = n := ⟨_, rfl⟩
  have HN := zAa.mk hn
  rw [hn] at hl HC ⊢
  clear hC hp hn
  go_enter Tryz.func93, Tryz.ntmps93
  go_wp2
  go_loopg [5, 8] n (fun gg _ s8 wr => ∃ k : Nat, k ≤ n ∧ n - k ≤ gg ∧ s8 = .int .i64 k ∧ zAa (Below w.heap.size w wr) ∧ zAa (∀ j : Nat, j < k → p (PSplitCuts.zBd xs j) = false))
  case atStart => exact ⟨0, Nat.zero_le _, by omega, rfl, ⟨Below.refl _ _⟩, ⟨fun j hj => absurd hj (Nat.not_lt_zero _)⟩⟩
  case round =>
    obtain ⟨k, hk, hg, rfl, BW, HA⟩ := hrel
    by_cases hlt : k < n
    · have hltz : (k : Int) < (n : Int) := by omega
      obtain ⟨ad, A4, c4, rfl, h0, h1, h2, h3, h4, h5, h6, h7⟩ := PSplitCuts.at_T49 (Kd.zBb HC.out BW.out) (k : Int) (by omega) hltz
      simp only [Int.toNat_natCast] at h0 h1 h2 h3 h4 h5
      have hcall := HP.out wr (PSplitCuts.zBd xs k) A4 c4 BW.out
      unfold cellV at hcall
      generalize hy : PSplitCuts.zBd xs (k : Int) = y at h0 h1 h2 h3 h4 h5 hcall
      have HY := zAa.mk hy
      obtain ⟨l4, hl4⟩ : ∃ l4, y.f1.length = l4 := ⟨_, rfl⟩
      rw [hl4] at h4 hcall
      clear h6 h7 hl4 hy
      cases hq : p y with
      | true =>
        rw [hq] at hcall
        have HQ := zAa.mk hq
        clear hq
        go_wp2_with (go_at_fn g; refine hcall.mono ?_; rintro e w' ⟨rfl, hb'⟩)
        go_ret
        refine ⟨?_, hb'⟩
        rw [idxC_hit (by rw [HN.out]; exact hlt) (by rw [HY.out]; exact HQ.out) HA.out]
        rfl
      | false =>
        rw [hq] at hcall
        have HQ := zAa.mk hq
        clear hq
        go_wp2_with (go_at_fn g; refine hcall.mono ?_; rintro e w' ⟨rfl, hb'⟩)
        go_roundg (n - (k + 1))
        case measure => omega
        case rel =>
          refine ⟨k + 1, by omega, by omega, by go_num, ⟨hb'⟩, ⟨fun j hj => ?_⟩⟩
          by_cases e : j = k
          · subst e
            rw [HY.out]; exact HQ.out
          · exact HA.out j (by omega)
    · have hltz : ¬ (k : Int) < (n : Int) := by omega
      have : k = n := by omega
      subst this
      go_wp2
      go_ret
      refine ⟨?_, BW.out⟩
      rw [idxC_miss (by rw [HN.out]; exact HA.out)]
      rfl
theorem contains_any (g : Nat) (lb : Array Value) (eg : ∀ args w, (callFunc g args).run Tryz.prog w = .ok (.enter g args) w) (p : CellM → Bool) (xs : List CellM) (A : Option Addr) (c : Nat) (w : World) (hC : kC.C w A xs.length xs) (hl : xs.length ≤ 100000) (hp : PredC g lb p w) :
    Calls Tryz.prog 72 #[.slice A xs.length c, .func (.func g) #[] lb] w fun e w' => e = .returned (.bool (xs.any p)) ∧ Below w.heap.size w w' := by
  have h := idx_any g lb eg p xs A c w hC hl hp
  have HI := zAa.mk (idxC_any p xs)
  obtain ⟨n, hn⟩ : ∃ n, xs.length = n := ⟨_, rfl⟩
  rw [hn] at h ⊢
  generalize idxC p xs = i at h HI
  clear hn hC hl hp
  go_enter Tryz.func72, Tryz.ntmps72
  go_wp2_with (go_at_call 93; refine h.mono ?_; rintro e w' ⟨rfl, hb'⟩)
  go_ret
  exact ⟨by rw [← HI.out]; rfl, hb'⟩
end Go.Proofs.YtpckachmleonlaaGreatDoor
end
section
set_option linter.unusedVariables false
set_option linter.unusedSimpArgs false
namespace Go.Proofs.YtpckachmleonlaaGreatDoor
open Go.RowKit Go.Proofs.YtpckachmleonlaaGreatDoorW.PrintWords
theorem setCells_far' {w : World} {g : Nat} : ∀ (cs : List Value) (off k : Nat), k ≠ g → (w.setCells g off cs).heap[k]? = w.heap[k]? := by
 intro cs off k hk
 exact setCells_far cs off k hk
def PredS (g k : Nat) (lb : Array Value) (p : CellM → Bool) (w : World) : Prop := ∀ (W : World) (x : CellM) (V : Option Addr) (c : Nat), Same_ (fun j => j ≠ g) w W → Calls Tryz.prog k (#[cellV x V c] ++ lb) W fun e w' => e = .returned (.bool (p x)) ∧ Below W.heap.size W w'
theorem PredS.predC {g k : Nat} {lb : Array Value} {p : CellM → Bool} {w : World} (h : PredS g k lb p w) : PredC k lb p w := fun W x V c hb => (h W x V c (.of_below hb)).mono fun e w' ⟨h1, h2⟩ => ⟨h1, hb.trans (h2.mono hb.size)⟩
structure DelF (base g n c : Nat) (p : CellM → Bool) (xs : List CellM) (w : World) (i j : Nat) (W : World) : Prop where
 hi : ((xs.take j).filter fun x => !p x).length = i
 ex : ∃ cur : List Value, W.heap[g]? = some (.cells cur.toArray 49 (0, 0)) ∧ cur.length = c * 6 ∧ Reps (kC.M W base fun k => k ≠ g) 6 ((xs.take j).filter fun x => !p x) (cur.take (i * 6)) ∧ Reps (kC.M W base fun k => k ≠ g) 6 (xs.drop j) ((cur.drop (j * 6)).take ((n - j) * 6))
 same : Same_ (fun k => k ≠ g) w W
 below : Below base w W
 size : base ≤ W.heap.size
theorem DelF.step {base g n c : Nat} {p : CellM → Bool} {xs : List CellM} {w W W' : World} {i j : Nat} (h : DelF base g n c p xs w i j W) (hb : Below W.heap.size W W') : DelF base g n c p xs w i j W' := by
 obtain ⟨cur, h1, h2, h3, h4⟩ := h.ex
 have hm : ∀ x cs, kC.M W base (fun k => k ≠ g) x cs → kC.M W' base (fun k => k ≠ g) x cs := fun x cs hx => kC.M_mono (fun k hk => hk.1) (kC.M_move (fun k hk => hb.block k hk.2.2.1) (kC.M_bound hx))
 exact ⟨h.hi, ⟨cur, zAf h1 hb, h2, h3.imp_ hm, h4.imp_ hm⟩, h.same.trans (.of_below hb), h.below.trans (hb.mono h.size), Nat.le_trans h.size hb.size⟩
theorem DelF.skip {base g n c : Nat} {p : CellM → Bool} {xs : List CellM} {w W : World} {i j : Nat} (h : DelF base g n c p xs w i j W) (hn : xs.length = n) (hj : j < n) (hp : p (PSplitCuts.zBd xs j) = true) : DelF base g n c p xs w i (j + 1) W := by
 obtain ⟨cur, h1, h2, h3, h4⟩ := h.ex
 have hx : (xs.take (j + 1)) = xs.take j ++ [PSplitCuts.zBd xs j] := by
  rw [List.take_succ_eq_append_getElem (by omega)]
  congr 2
  simp [PSplitCuts.zBd, List.getD_eq_getElem?_getD, List.getElem?_eq_getElem (show j < xs.length by omega)]
 have hf : ((xs.take (j + 1)).filter fun x => !p x) = (xs.take j).filter fun x => !p x := by
  rw [hx, List.filter_append]
  simp [hp]
 refine ⟨by rw [hf]; exact h.hi, ⟨cur, h1, h2, by rw [hf]; exact h3, ?_⟩, h.same, h.below, h.size⟩
 have h5 := Kd.reps_drop (m := 1) h4
 rw [List.drop_drop, List.drop_take, List.drop_drop, Nat.one_mul, show j * 6 + 6 = (j + 1) * 6 by omega, show (n - j) * 6 - 6 = (n - (j + 1)) * 6 by omega] at h5
 exact h5
theorem kC_len {w : World} {base : Nat} {ok : Nat → Prop} {x : CellM} {cs : List Value} (h : kC.M w base ok x cs) : cs.length = 6 := kC.K_len (kC.K_of_M h)
theorem DelF.keep {base g n c : Nat} {p : CellM → Bool} {xs : List CellM} {w W : World} {i j : Nat} (h : DelF base g n c p xs w i j W) (hn : xs.length = n) (hj : j < n) (hnc : n ≤ c) (hbg : base ≤ g) (hp : p (PSplitCuts.zBd xs j) = false) {cs : List Value} (hcs : kC.M W base (fun k => k ≠ g) (PSplitCuts.zBd xs j) cs) : DelF base g n c p xs w (i + 1) (j + 1) (W.setCells g (i * 6) cs) := by
 obtain ⟨cur, h1, h2, h3, h4⟩ := h.ex
 have hl := kC_len hcs
 have hij : i ≤ j := by
  rw [← h.hi]
  exact Nat.le_trans (List.length_filter_le _ _) (by rw [List.length_take]; omega)
 have hx : (xs.take (j + 1)) = xs.take j ++ [PSplitCuts.zBd xs j] := by
  rw [List.take_succ_eq_append_getElem (by omega)]
  congr 2
  simp [PSplitCuts.zBd, List.getD_eq_getElem?_getD, List.getElem?_eq_getElem (show j < xs.length by omega)]
 have hf : ((xs.take (j + 1)).filter fun x => !p x) = ((xs.take j).filter fun x => !p x) ++ [PSplitCuts.zBd xs j] := by
  rw [hx, List.filter_append]
  simp [hp]
 have hfit : i * 6 + cs.length ≤ cur.length := by rw [hl, h2]; omega
 have hsame : Same_ (fun k => k ≠ g) W (W.setCells g (i * 6) cs) := fun k hk _ => setCells_far' cs _ k hk
 have hm : ∀ x cs', kC.M W base (fun k => k ≠ g) x cs' → kC.M (W.setCells g (i * 6) cs) base (fun k => k ≠ g) x cs' := fun x cs' hx => kC.M_mono (fun k hk => hk.1) (kC.M_move (fun k hk => hsame k hk.1 hk.2.2.1) (kC.M_bound hx))
 refine ⟨by rw [hf, List.length_append, h.hi]; rfl, ⟨splice cur (i * 6) cs, Cp.zCc h1 hfit, by rw [length_splice _ _ _ hfit, h2], ?_, ?_⟩, h.same.trans hsame, Cp.zBk h.below hbg, by rw [(setCells_same g cs (i * 6) W).2.2.2]; exact h.size⟩
 ·rw [hf, show (i + 1) * 6 = i * 6 + cs.length by rw [hl]; omega, Cp.splice_upto _ _ _ (by rw [h2]; omega)]
  exact (h3.imp_ hm).snoc (hm _ _ hcs) hl
 ·have h5 := Kd.reps_drop (m := 1) h4
  rw [List.drop_drop, List.drop_take, List.drop_drop, Nat.one_mul, show j * 6 + 6 = (j + 1) * 6 by omega, show (n - j) * 6 - 6 = (n - (j + 1)) * 6 by omega] at h5
  have e : (splice cur (i * 6) cs).drop ((j + 1) * 6) = cur.drop ((j + 1) * 6) := by
   unfold splice
   rw [← List.append_assoc, List.drop_append, List.drop_eq_nil_of_le (by rw [List.length_append, List.length_take, hl]; omega), List.nil_append, List.drop_drop]
   congr 1
   rw [List.length_append, List.length_take, hl, h2]
   omega
  rw [e]
  exact h5.imp_ hm
theorem DelF.at {base g n c : Nat} {p : CellM → Bool} {xs : List CellM} {w W : World} {i j : Nat} (h : DelF base g n c p xs w i j W) (hn : xs.length = n) (hj : j < n) (hnc : n ≤ c) : ∃ A4 c4, kC.M W base (fun k => k ≠ g) (PSplitCuts.zBd xs j) [.string (PSplitCuts.zBd xs j).f0.f0, .string (PSplitCuts.zBd xs j).f0.f1, .string (PSplitCuts.zBd xs j).f0.f2, .int .u64 (PSplitCuts.zBd xs j).f0.f3, .slice A4 (PSplitCuts.zBd xs j).f1.length c4, .bool (PSplitCuts.zBd xs j).f2] ∧
  ∀ t u, ([.string (PSplitCuts.zBd xs j).f0.f0, .string (PSplitCuts.zBd xs j).f0.f1, .string (PSplitCuts.zBd xs j).f0.f2, .int .u64 (PSplitCuts.zBd xs j).f0.f3, .slice A4 (PSplitCuts.zBd xs j).f1.length c4, .bool (PSplitCuts.zBd xs j).f2] : List Value)[t]? = some u → W.cell? ⟨g, j * 6 + t, none⟩ = some u := by
 obtain ⟨cur, h1, h2, h3, h4⟩ := h.ex
 have hx : (xs.drop j)[0]? = some (PSplitCuts.zBd xs j) := by
  rw [List.getElem?_drop, Nat.add_zero, List.getElem?_eq_getElem (by omega)]
  simp [PSplitCuts.zBd, List.getD_eq_getElem?_getD, List.getElem?_eq_getElem (show j < xs.length by omega)]
 have h5 := h4.2 0 _ hx
 rw [Nat.zero_mul, List.drop_zero, List.take_take, Nat.min_eq_left (by omega)] at h5
 have hc : ∀ t u, ((cur.drop (j * 6)).take 6)[t]? = some u → W.cell? ⟨g, j * 6 + t, none⟩ = some u := fun t u hu => by
  have ht : t < 6 := by
   have := (List.getElem?_eq_some_iff.1 hu).1
   rw [List.length_take] at this
   omega
  rw [List.getElem?_take_of_lt ht, List.getElem?_drop] at hu
  rw [zAc h1]
  simpa using hu
 obtain ⟨v4, e, h6⟩ := PSplitCuts.k49_openM h5
 obtain ⟨A4, c4, e4⟩ := Kd.zAk h6
 subst e4
 rw [e] at h5 hc
 exact ⟨A4, c4, h5, hc⟩
theorem DelF.cellAt {base g n c : Nat} {p : CellM → Bool} {xs : List CellM} {w W : World} {i j : Nat} (h : DelF base g n c p xs w i j W) (m : Nat) (hm : m < c * 6) : (∃ u, W.cell? ⟨g, m, none⟩ = some u) ∧ W.frozen? ⟨g, m, none⟩ = false := by
 obtain ⟨cur, h1, h2, h3, h4⟩ := h.ex
 refine ⟨⟨_, (zAc h1 m).trans (by rw [List.getElem?_toArray, List.getElem?_eq_getElem (by omega)])⟩, zAd h1 m⟩
theorem DelF.start {base g n c k : Nat} {p : CellM → Bool} {xs : List CellM} {w : World} (h : Kd.R kC 49 w base (fun _ => True) (.slice (some ⟨g, 0, none⟩) n c) xs) (hk : k < xs.length) (hf : (xs.take k).filter (fun x => !p x) = xs.take k) (hb : base ≤ w.heap.size) : DelF base g n c p xs w k k w ∧ c ≤ maxLen := by
 have hn := (Kd.zEe h).1
 obtain ⟨hok, inner, ho, hr⟩ := h
 rcases ho.2 with ⟨h0, _⟩ | ⟨g', cap, cur, hv, h1, h2, h3, h4, h5, h6⟩
 ·cases h0
 ·injection hv with ha _ hc
  injection ha with ha
  injection ha with hg
  subst hg; subst hc
  have hr2 : Reps (kC.M w base fun k => k ≠ g) 6 xs (cur.toList.take (n * 6)) := by
   rw [hn, show cur.toList.take (xs.length * 6) = inner from h6]
   exact hr.imp_ (fun p cs hp => kC.M_mono (fun k hk e => hk.2 (by rw [e]; rfl)) hp)
  have ht := Kd.reps_take hr2 (Nat.le_of_lt hk)
  have hd := Kd.reps_drop (m := k) hr2
  rw [List.take_take, Nat.min_eq_left (by omega)] at ht
  rw [List.drop_take, show n * 6 - k * 6 = (n - k) * 6 by omega] at hd
  refine ⟨⟨by rw [hf, List.length_take]; omega, ⟨cur.toList, by simpa using h2, by rw [Array.length_toList]; exact h5, by rw [hf]; exact ht, hd⟩, Same_.refl, Below.refl _ _, hb⟩, h4⟩
theorem DelF.finish {base g n c i : Nat} {p : CellM → Bool} {xs : List CellM} {w W : World} (h : DelF base g n c p xs w i n W) (hn : xs.length = n) (hnc : n ≤ c) (hbg : base ≤ g) (hm : c ≤ maxLen) (zs : List Value) (hz : i * 6 + zs.length ≤ c * 6) : Kd.R kC 49 (W.setCells g (i * 6) zs) base (fun _ => True) (.slice (some ⟨g, 0, none⟩) i c) (xs.filter fun x => !p x) ∧ Below base w (W.setCells g (i * 6) zs) := by
 obtain ⟨cur, h1, h2, h3, h4⟩ := h.ex
 have hi := h.hi
 rw [← hn, List.take_length] at hi h3
 have hle : (xs.filter fun x => !p x).length ≤ n := by rw [← hn]; exact List.length_filter_le _ _
 generalize (xs.filter fun x => !p x) = ys at hi h3 hle ⊢
 subst hi
 have hfit : ys.length * 6 + zs.length ≤ cur.length := by rw [h2]; exact hz
 refine ⟨⟨fun _ _ => trivial, cur.take (ys.length * 6), ⟨by rw [List.length_take, h2]; change min _ _ = ys.length * 6; omega, .inr ⟨g, c, _, rfl, hbg, Cp.zCc h1 hfit, by omega, hm, ?_, ?_⟩⟩, ?_⟩, Cp.zBk h.below hbg⟩
 ·rw [List.size_toArray, length_splice _ _ _ hfit, h2]
  rfl
 ·rw [List.toList_toArray]
  unfold splice
  exact List.take_left' (by rw [List.length_take, h2]; change min _ _ = ys.length * 6; omega)
 ·exact h3.imp_ (fun x cs' hx => kC.M_mono (fun k hk => ⟨trivial, fun e => hk.1 (by injection e)⟩) (kC.M_move (fun k hk => setCells_far' zs _ k hk.1) (kC.M_bound hx)))
def zeroV49 : Value := .agg #[.string ⟨#[]⟩, .string ⟨#[]⟩, .string ⟨#[]⟩, .int .u64 0, .slice none 0 0, .bool false]
theorem info49 : (Tryz.prog.info? 49).map (fun i => (i.zero, i.size, i.bytes)) = some (some zeroV49, 6, 88) := by kernel_rfl
def zerosN (m : Nat) : List Value := (Builtin.zeroCells zeroV49.cells m).toList
theorem zerosN_len (m : Nat) : (zerosN m).length = m * 6 := by
 unfold zerosN Builtin.zeroCells
 simp [zeroV49, Value.cells]
theorem zerosN_one (m : Nat) : ∀ u ∈ zerosN m, u.oneCell' = true := by
 intro u hu
 unfold zerosN Builtin.zeroCells at hu
 simp only [zeroV49, Value.cells, Array.toList_map, Array.toList_range, List.mem_map] at hu
 obtain ⟨i, _, rfl⟩ := hu
 have h : i % 6 < 6 := Nat.mod_lt _ (by decide)
 change ((#[Value.string ⟨#[]⟩, .string ⟨#[]⟩, .string ⟨#[]⟩, .int .u64 0, .slice none 0 0, .bool false] : Array Value)[i % 6]!).oneCell' = true
 generalize i % 6 = k at h ⊢
 rcases (by omega : k = 0 ∨ k = 1 ∨ k = 2 ∨ k = 3 ∨ k = 4 ∨ k = 5) with rfl | rfl | rfl | rfl | rfl | rfl <;> rfl
theorem run_clearN (w : World) (ty : TypeId) (g off m c : Nat) (cur : List Value) (hg : w.heap[g]? = some (.cells cur.toArray 49 (0, 0))) (hfit : off + m * 6 ≤ cur.length) (hm : 0 < m) :
  (Builtin.clear_ #[22] ty #[.slice (some ⟨g, off, none⟩) m c]).run Tryz.prog w = .ok (.tuple #[]) (w.setCells g off (zerosN m)) := by
 obtain ⟨i0, hi, hz, _, _⟩ := info_parts info49
 have hst := run_storeCells_cells (P := Tryz.prog) g off (zerosN m) 0 w (fun j hj => by
   rw [cell_of_row w g _ _ 49 (0, 0) hg]
   rw [zerosN_len] at hj
   simp; omega) (fun j _ => zAd hg _) (zerosN_one m)
 simp only [Nat.add_zero] at hst
 obtain ⟨m, rfl⟩ : ∃ k, m = k + 1 := ⟨m - 1, by omega⟩
 simp [Builtin.clear_, run_underlying Tryz.underlying22, zeroValue, typeInfo, hi, hz]
 unfold zerosN at hst
 simp [hst]
 rfl
theorem findIdx_lt {p : CellM → Bool} {xs : List CellM} {k : Nat} (h : xs.findIdx p = k) (hk : k < xs.length) : (xs.take k).filter (fun x => !p x) = xs.take k ∧ p (PSplitCuts.zBd xs k) = true := by
 obtain ⟨h1, h2⟩ := (List.findIdx_eq hk).1 h
 refine ⟨List.filter_eq_self.2 fun x hx => ?_, by simpa [PSplitCuts.zBd, List.getD_eq_getElem?_getD, List.getElem?_eq_getElem hk] using h1⟩
 obtain ⟨j, hj, rfl⟩ := List.getElem_of_mem hx
 rw [List.length_take] at hj
 have := h2 j (by omega)
 rw [List.getElem_take]
 simp [this]
set_option maxHeartbeats 4000000 in
set_option maxRecDepth 100000 in
theorem delf_any (base k : Nat) (lb : Array Value) (eg : ∀ args w, (callFunc k args).run Tryz.prog w = .ok (.enter k args) w) (p : CellM → Bool) (xs : List CellM) (A : Option Addr) (n c : Nat) (w : World) (h : Kd.R kC 49 w base (fun _ => True) (.slice A n c) xs) (hl : n ≤ 100000) (hp : ∀ g, (Value.slice A n c).ownBlock = some g → PredS g k lb p w) (hb : base ≤ w.heap.size) (hp0 : xs = [] → PredC k lb p w) :
  Calls Tryz.prog 53 #[.slice A n c, .func (.func k) #[] lb] w fun e w' => ∃ v, e = .returned v ∧ Kd.R kC 49 w' base (fun _ => True) v (xs.filter fun x => !p x) ∧ Below base w w' := by
 obtain ⟨hn, hnc, hC⟩ := Kd.zEe h
 have HR := zAa.mk h
 by_cases hall : xs.findIdx p < xs.length
 ·have hi0 : idxC p xs = (xs.findIdx p : Int) := by unfold idxC; rw [if_pos hall]
  obtain ⟨g, c', e1, hbg, hgl, cells, hcl⟩ := Kd.R_form h (by omega)
  injection e1 with e1 e2 e3
  clear e2
  subst e1 e3
  have hpS := hp g rfl
  have hidx := idx_any k lb eg p xs (some ⟨g, 0, none⟩) c w hC (by omega) hpS.predC
  rw [hi0, ← hn] at hidx
  obtain ⟨k0, hk0⟩ : ∃ k0, xs.findIdx p = k0 := ⟨_, rfl⟩
  rw [hk0] at hidx hall
  obtain ⟨hf, hpk⟩ := findIdx_lt hk0 hall
  have HI := zAa.mk hidx
  have HK := zAa.mk (And.intro hf hpk)
  have HP := zAa.mk hpS
  have HN := zAa.mk hn
  have hkn : k0 < n := by omega
  have HB := zAa.mk (And.intro hb hbg)
  clear h hC hp hp0 hi0 hidx hf hpk hpS hn hall hk0 hb hbg hcl
  go_enter Tryz.func53, Tryz.ntmps53
  go_wp2_with fail
  refine HI.out.mono ?_
  rintro e w1 ⟨rfl, hb1⟩
  have e1 : ((k0 : Int) == -1) = false := by simp
  obtain ⟨hst, hmx⟩ := DelF.start HR.out (by rw [← HN.out]; exact hkn) HK.out.1 HB.out.1
  have HD : zAa (DelF base g n c p xs w k0 (k0 + 1) w1) := ⟨(hst.skip HN.out.symm hkn HK.out.2).step hb1⟩
  have HMX := zAa.mk hmx
  clear hb1 hst hmx
  go_upto_region 5 with fail
  clear e1
  go_loopg [5, 6] n (fun gg s5 s6 wr => ∃ i j : Nat, j ≤ n ∧ n - j ≤ gg ∧ i < j ∧ s5 = .int .i64 i ∧ s6 = .int .i64 j ∧ zAa (DelF base g n c p xs w i j wr))
  case atStart => exact ⟨k0, k0 + 1, by omega, by omega, by omega, rfl, by go_num, HD⟩
  case round =>
   obtain ⟨i, j, hj, hg, hij, rfl, rfl, HQ⟩ := hrel
   by_cases hlt : j < n
   ·have hltz : (j : Int) < (n : Int) := by omega
    obtain ⟨A4, c4, hM, hcell⟩ := HQ.out.at HN.out.symm hlt hnc
    have HM := zAa.mk hM
    have h0 := hcell 0 _ rfl
    have h1 := hcell 1 _ rfl
    have h2 := hcell 2 _ rfl
    have h3 := hcell 3 _ rfl
    have h4 := hcell 4 _ rfl
    have h5 := hcell 5 _ rfl
    generalize hy : PSplitCuts.zBd xs (j : Int) = y at h0 h1 h2 h3 h4 h5 HM
    have HY := zAa.mk hy
    obtain ⟨l4, hl4⟩ : ∃ l4, y.f1.length = l4 := ⟨_, rfl⟩
    rw [hl4] at h4
    have HL4 := zAa.mk hl4
    rw [Nat.add_zero] at h0
    have HD1 : zAa (DelF base g n c p xs w i j (wr.alloc (.cells #[.string y.f0.f0, .string y.f0.f1, .string y.f0.f2, .int .u64 y.f0.f3, .slice A4 l4 c4, .bool y.f2] 49))) := ⟨HQ.out.step (zAb (Below.refl _ _) _)⟩
    have hcall := HP.out (wr.alloc (.cells #[.string y.f0.f0, .string y.f0.f1, .string y.f0.f2, .int .u64 y.f0.f3, .slice A4 l4 c4, .bool y.f2] 49)) y A4 c4 HD1.out.same
    unfold cellV at hcall
    rw [hl4] at hcall
    have HB7 := zAa.mk (heap_alloc_new wr (.cells #[.string y.f0.f0, .string y.f0.f1, .string y.f0.f2, .int .u64 y.f0.f3, .slice A4 l4 c4, .bool y.f2] 49))
    clear hM hcell hy hl4
    cases hq : p y with
    | true =>
     rw [hq] at hcall
     have HP1 := zAa.mk hq
     clear hq
     go_wp2_with (go_at_fn k; refine hcall.mono ?_; rintro e w2 ⟨rfl, hb2⟩)
     go_roundg (n - (j + 1))
     case measure => omega
     case rel => exact ⟨i, j + 1, by omega, by omega, by omega, rfl, by go_num, ⟨(HD1.out.step hb2).skip HN.out.symm hlt (by rw [HY.out]; exact HP1.out)⟩⟩
    | false =>
     rw [hq] at hcall
     have HP1 := zAa.mk hq
     clear hq
     go_wp2_with (go_at_fn k; refine hcall.mono ?_; rintro e w2 ⟨rfl, hb2⟩; have HD2 := zAa.mk (HD1.out.step hb2); have b7 := zAa.mk (zAf HB7.out hb2); have HB2 := zAa.mk ((zAb (Below.refl _ _) _).trans (hb2.mono (by simp)) : Below wr.heap.size wr w2); clear hb2 h0 h1 h2 h3 h4 h5; have d0 := (zAc b7.out 0).trans (rfl : _ = some (Value.string y.f0.f0)); have d1 := (zAc b7.out 1).trans (rfl : _ = some (Value.string y.f0.f1)); have d2 := (zAc b7.out 2).trans (rfl : _ = some (Value.string y.f0.f2)); have d3 := (zAc b7.out 3).trans (rfl : _ = some (Value.int .u64 y.f0.f3)); have d4 := (zAc b7.out 4).trans (rfl : _ = some (Value.slice A4 l4 c4)); have d5 := (zAc b7.out 5).trans (rfl : _ = some (Value.bool y.f2)); have hl7 := zAj b7.out; have hic : i * 6 + 6 ≤ c * 6 := (by omega); have hin : (i : Int) < (n : Int) := (by omega); obtain ⟨⟨u0, x0⟩, f0⟩ := HD2.out.cellAt (i * 6) (by omega); obtain ⟨⟨u1, x1⟩, f1⟩ := HD2.out.cellAt (i * 6 + 1) (by omega); obtain ⟨⟨u2, x2⟩, f2⟩ := HD2.out.cellAt (i * 6 + 2) (by omega); obtain ⟨⟨u3, x3⟩, f3⟩ := HD2.out.cellAt (i * 6 + 3) (by omega); obtain ⟨⟨u4, x4⟩, f4⟩ := HD2.out.cellAt (i * 6 + 4) (by omega); obtain ⟨⟨u5, x5⟩, f5⟩ := HD2.out.cellAt (i * 6 + 5) (by omega); have hlg := World.block_lt_of_cell? w2 _ x0)
     go_roundg (n - (j + 1))
     case measure => omega
     case rel =>
      refine ⟨i + 1, j + 1, by omega, by omega, by omega, by go_num, by go_num, ⟨?_⟩⟩
      have hm2 : kC.M w2 base (fun k => k ≠ g) y [.string y.f0.f0, .string y.f0.f1, .string y.f0.f2, .int .u64 y.f0.f3, .slice A4 l4 c4, .bool y.f2] := by
       have hM := HM.out
       rw [HL4.out] at hM
       exact kC.M_mono (fun k hk => hk.1) (kC.M_move (fun k hk => (HB2.out.block k hk.2.2.1)) (kC.M_bound hM))
      have h9 := HD2.out.keep HN.out.symm hlt hnc HB.out.2 (by rw [HY.out]; exact HP1.out) (by rw [HY.out]; exact hm2)
      exact h9
   ·obtain rfl : j = n := by omega
    have hltz : ¬ (j : Int) < (j : Int) := by omega
    obtain ⟨cur, hc1, hc2, _, _⟩ := HQ.out.ex
    have HC1 := zAa.mk hc1
    have hfit : i * 6 + (j - i) * 6 ≤ c * 6 := by omega
    obtain ⟨hR, hBl⟩ := HQ.out.finish HN.out.symm hnc HB.out.2 HMX.out (zerosN (j - i)) (by rw [zerosN_len]; exact hfit)
    have HRR := zAa.mk hR
    have HBL := zAa.mk hBl
    have HF : zAa (i * 6 + (j - i) * 6 ≤ cur.length) := ⟨by rw [hc2]; exact hfit⟩
    clear hR hBl hc1 hc2 hfit
    go_wp2_with (with_reducible refine wpList_clear_run wr rfl (.tmp 38) 22 rfl _ rfl (run_clearN wr _ g (i * 6) (j - i) (c - i) cur HC1.out HF.out (by omega)) ?_)
    go_ret
    exact ⟨_, rfl, HRR.out, HBL.out⟩
 ·have hi0 : idxC p xs = -1 := by unfold idxC; rw [if_neg hall]
  have hf : (xs.filter fun x => !p x) = xs := List.filter_eq_self.2 fun x hx => by
   have := List.findIdx_eq_length.1 (Nat.le_antisymm List.findIdx_le_length (Nat.le_of_not_lt hall)) x hx
   simp [this]
  have hpC : PredC k lb p w := by
   cases xs with
   | nil => exact hp0 rfl
   | cons x xs =>
    obtain ⟨g, c', e1, _⟩ := Kd.R_form h (by simp)
    exact (hp g (by rw [e1]; rfl)).predC
  have hidx := idx_any k lb eg p xs A c w hC (by omega) hpC
  rw [hi0, ← hn] at hidx
  have HI := zAa.mk hidx
  rw [hf]
  have HB := zAa.mk hb
  clear h hC hp hp0 hi0 hidx hf hn hall hb hpC
  go_enter Tryz.func53, Tryz.ntmps53
  go_wp2_with fail
  refine HI.out.mono ?_
  rintro e w1 ⟨rfl, hb1⟩
  have HR1 := zAa.mk (Kd.zFa HR.out hb1)
  have HB1 := zAa.mk (hb1.mono HB.out)
  clear hb1
  go_wp2_with fail
  go_ret
  exact ⟨_, rfl, HR1.out, HB1.out⟩
end Go.Proofs.YtpckachmleonlaaGreatDoor
end
