/- Words and walks for Split and Tablet: texts of these sessions, and of the kit's print, cut down to what is used (X3 B4 C4). -/
import Derived.Test.YtpckachmleonlaaGreatDoorCut39
import Derived.Test.YtpckachmleonlaaGreatDoorCut34
import Derived.Test.YtpckachmleonlaaGreatDoorCut40
import Derived.Test.YtpckachmleonlaaGreatDoorCut37
section
set_option linter.unusedVariables false
set_option linter.unusedSimpArgs false
namespace Go.Proofs.YtpckachmleonlaaGreatDoor.PSplitCuts
open Go.RowKit Go.Proofs.YtpckachmleonlaaGreatDoorW.PrintWords Go.Proofs.YtpckachmleonlaaGreatDoorW.PrintMore Cp
theorem ins_f (a b r : ByteArray) (xs : List CellM) (k : Nat) (ha : a.size ≤ 10000) (hb : b.size ≤ 10000) (hr : r.size ≤ 10000) (hk : 30000 ≤ k) : bulwarkref10_Tablet_Inside.f k a b xs r = some (insT a b r) := by
  unfold bulwarkref10_Tablet_Inside.f
  rw [text_f r a k hr ha hk, text_f r b k hr hb hk, insT_eq]
  simp only [Option.bind_some]
  unfold ltS
  by_cases h1 : cmpL r.data.toList a.data.toList < 0
  · rw [if_neg (by omega), decide_eq_true h1]; rfl
  · rw [if_pos (by omega), decide_eq_false h1]
    by_cases h3 : b.size = 0
    · rw [if_pos (empty_size.2 h3), decide_eq_true h3]; rfl
    · rw [if_neg (fun e => h3 (empty_size.1 e)), decide_eq_false h3]; rfl
theorem filt_take_snoc {p : CellM → Bool} {cs : List CellM} {i : Nat} {x : CellM} (h : cs[i]? = some x) : (cs.take (i + 1)).filter p = (cs.take i).filter p ++ if p x then [x] else [] := filter_take_succ p cs i x h
theorem rsplit_l (a b s : ByteArray) (cs : List CellM) (hl : cs.length ≤ 1000) (hi : ∀ x ∈ cs, ltS x.f0.f0 a = false) (hsh : ∀ x ∈ cs, x.f0.f0.size ≤ 10000) (ha : a.size ≤ 10000) (hs : s.size ≤ 10000) (h0 : s.size ≠ 0) : ∀ (d k i : Nat), i ≤ cs.length → cs.length - i = d → d + 40000 ≤ k →
    bulwarkref11_Split.l0 k (i : Int) a b cs a s ((cs.take i).filter fun x => ltS x.f0.f0 s) s b ((cs.take i).filter fun x => !ltS x.f0.f0 s) = some (a, s, loC s cs, s, b, hiC s cs, 0) := by
  intro d
  induction d with
  | zero =>
    intro k i h1 hd hk
    obtain ⟨k, rfl⟩ : ∃ m, k = m + 1 := ⟨k - 1, by omega⟩
    simp only [bulwarkref11_Split.l0]
    rw [if_neg (by omega), List.take_of_length_le (by omega)]
    rfl
  | succ d ih =>
    intro k i h1 hd hk
    obtain ⟨k, rfl⟩ : ∃ m, k = m + 1 := ⟨k - 1, by omega⟩
    have hx : cs[i]? = some (zB cs i) := by
      unfold zB
      rw [Int.toNat_natCast, List.getD_eq_getElem?_getD, List.getElem?_eq_getElem (by omega)]
      rfl
    have hih := ih k (i + 1) (by omega) (by omega) (by omega)
    have hlen : ∀ p : CellM → Bool, ((cs.take i).filter p).length ≤ 1000 := fun p => Nat.le_trans (List.length_filter_le _ _) (by rw [List.length_take]; omega)
    have hl1 := hlen fun x => ltS x.f0.f0 s
    have hl2 := hlen fun x => !ltS x.f0.f0 s
    rw [filt_take_snoc hx, filt_take_snoc hx] at hih
    simp only [bulwarkref11_Split.l0]
    have hm := List.mem_of_getElem? hx
    generalize zB cs (i : Int) = x at hih hm
    rw [if_pos (by omega), if_pos (by omega), ins_f a s x.f0.f0 _ k ha hs (hsh x hm) (by omega), w64 (by omega) (by omega), show ((i : Int) + 1) = ((i + 1 : Nat) : Int) by omega]
    simp only [Option.bind_some]
    have hin : insT a s x.f0.f0 = ltS x.f0.f0 s := by
      rw [insT_eq, hi x hm]
      simp [h0]
    rw [hin]
    cases hb : ltS x.f0.f0 s with
    | true =>
      rw [if_pos rfl, if_pos (Nat.lt_of_le_of_lt hl1 (by decide))]
      rw [hb] at hih
      simpa using hih
    | false =>
      rw [if_neg (by simp), if_pos (Nat.lt_of_le_of_lt hl2 (by decide))]
      rw [hb] at hih
      simpa using hih
def cutR (a b s : ByteArray) (cs : List CellM) : ByteArray × ByteArray × List CellM × ByteArray × ByteArray × List CellM × Int :=
  if splitK a b s = 0 then (a, s, loC s cs, s, b, hiC s cs, 0) else (⟨#[]⟩, ⟨#[]⟩, [], ⟨#[]⟩, ⟨#[]⟩, [], splitK a b s)
theorem rsplit_f (a b s : ByteArray) (cs : List CellM) (h : TabL a b cs) (hs : s.size ≤ 10000) : bulwarkref11_Split.f 100000 a b cs s = some (cutR a b s cs) := by
  have hr := h.rt
  unfold zGe at hr
  simp only [Bool.and_eq_true, decide_eq_true_eq] at hr
  have ha : a.size ≤ 10000 := by omega
  have hb : b.size ≤ 10000 := by omega
  have hl := h.len
  unfold bulwarkref11_Split.f cutR
  by_cases h1 : s.size = 0
  · have e : splitK a b s = 1 := by unfold splitK; rw [if_pos (.inl h1)]
    rw [if_pos (by omega), e]
    rfl
  rw [if_neg (by omega)]
  by_cases h2 : 32 < s.size
  · have e : splitK a b s = 1 := by unfold splitK; rw [if_pos (.inr h2)]
    rw [decide_eq_true (by omega), e]
    rfl
  rw [decide_eq_false (by omega)]
  have e0 : splitK a b s = if ltS a s = false ∨ (b.size ≠ 0 ∧ ltS s b = false) then 8 else 0 := by unfold splitK; rw [if_neg (by omega)]
  show bulwarkref11_Split.j0 (99999 + 1) s false a b cs = _
  simp only [bulwarkref11_Split.j0]
  rw [if_neg (by simp), text_f a s 99999 ha hs (by omega)]
  simp only [Option.bind_some]
  have hj : ∀ f : Bool, bulwarkref11_Split.j1 99999 s f a b cs = if f = true then some ((⟨#[]⟩ : ByteArray), (⟨#[]⟩ : ByteArray), ([] : List S49), (⟨#[]⟩ : ByteArray), (⟨#[]⟩ : ByteArray), ([] : List S49), 8) else some (a, s, loC s cs, s, b, hiC s cs, 0) := fun f => by
    show bulwarkref11_Split.j1 (99998 + 1) s f a b cs = _
    simp only [bulwarkref11_Split.j1]
    cases f with
    | true => rfl
    | false =>
      rw [if_neg (by simp), if_neg (by simp)]
      have h9 := rsplit_l a b s cs (by omega) (fun x hx => by
        have h8 := h.ins x hx
        rw [insT_eq, Bool.and_eq_true] at h8
        simpa using h8.1) (fun x hx => by have := okC_row (h.ok.ok x hx); omega) ha hs h1 cs.length 99998 0 (Nat.zero_le _) (by omega) (by omega)
      simpa using h9
  by_cases h3 : cmpL a.data.toList s.data.toList < 0
  · have l1 : ltS a s = true := decide_eq_true h3
    rw [if_neg (by omega)]
    by_cases h4 : b.size = 0
    · have e1 : splitK a b s = 0 := by rw [e0, if_neg (by rw [l1]; simp [h4])]
      rw [if_pos (empty_size.2 h4), hj, if_neg (by simp), e1, if_pos rfl]
    · rw [if_neg (fun e => h4 (empty_size.1 e)), text_f s b 99999 hs hb (by omega)]
      simp only [Option.bind_some]
      rw [hj]
      by_cases h5 : cmpL s.data.toList b.data.toList < 0
      · have l2 : ltS s b = true := decide_eq_true h5
        have e1 : splitK a b s = 0 := by rw [e0, if_neg (by rw [l1, l2]; simp)]
        rw [decide_eq_false (by omega), if_neg (by simp), e1, if_pos rfl]
      · have l2 : ltS s b = false := decide_eq_false h5
        have e1 : splitK a b s = 8 := by rw [e0, if_pos (.inr ⟨h4, l2⟩)]
        rw [decide_eq_true (by omega), if_pos rfl, e1]
        rfl
  · have l1 : ltS a s = false := decide_eq_false h3
    have e1 : splitK a b s = 8 := by rw [e0, if_pos (.inl l1)]
    rw [if_pos (by omega), hj, if_pos rfl, e1]
    rfl
end Go.Proofs.YtpckachmleonlaaGreatDoor.PSplitCuts
namespace Go.Proofs.YtpckachmleonlaaGreatDoor
open Go.RowKit Go.Proofs.YtpckachmleonlaaGreatDoorW.PrintWords
open PSplitCuts (cutR)
theorem V_of {w : World} {A : Option Addr} {n c : Nat} {xs : List CellM} (h : kC.C w A n xs) (hn : n = xs.length) (hc : n ≤ c) : Kd.V kC 49 w w.heap.size (fun k => k < w.heap.size) (.slice A n c) xs := by
  have h9 := CAt.of h hn hc
  subst hn
  exact Kd.V_mk hc (fun W hW => (h9.step (fun k hk hl => hW k hk hl)).now)
theorem rsplit_any (a b s : ByteArray) (A : Option Addr) (c : Nat) (cs : List CellM) (w : World) (hC : kC.C w A cs.length cs) (hc : cs.length ≤ c) (h : TabL a b cs) (hs : s.size ≤ 10000) :
    Calls Tryz.prog 18 #[.agg #[.string a, .string b, .slice A cs.length c], .string s] w fun e w' => ∃ (A1 A2 : Option Addr) (n1 n2 c1 c2 : Nat), e = .returned (.tuple #[.agg #[.string (cutR a b s cs).1, .string (cutR a b s cs).2.1, .slice A1 n1 c1], .agg #[.string (cutR a b s cs).2.2.2.1, .string (cutR a b s cs).2.2.2.2.1, .slice A2 n2 c2], .int .i64 (splitK a b s)]) ∧
      n1 = (cutR a b s cs).2.2.1.length ∧ n1 ≤ c1 ∧ kC.C w' A1 n1 (cutR a b s cs).2.2.1 ∧ n2 = (cutR a b s cs).2.2.2.2.2.1.length ∧ n2 ≤ c2 ∧ kC.C w' A2 n2 (cutR a b s cs).2.2.2.2.2.1 ∧ Below w.heap.size w w' := by
  have hf := PSplitCuts.rsplit_f a b s cs h hs
  have hk : (cutR a b s cs).2.2.2.2.2.2 = splitK a b s := by
    unfold PSplitCuts.cutR
    split
    · rename_i h0; rw [h0]
    · rfl
  rw [← hk]
  generalize cutR a b s cs = R at hf
  obtain ⟨r1, r2, r3, r4, r5, r6, r7⟩ := R
  refine (PSplitCuts.bulwarkref11_Split.calls 100000 a b _ A c cs s r1 r2 r3 r4 r5 r6 r7 w (V_of hC rfl hc) hf).mono ?_
  rintro e w' ⟨v2, v5, rfl, h2, h5, hb⟩
  obtain ⟨A1, c1, e1⟩ := Kd.N_slice h2
  obtain ⟨A2, c2, e2⟩ := Kd.N_slice h5
  subst e1 e2
  obtain ⟨_, g2, g3⟩ := Kd.N_reads' h2
  obtain ⟨_, g5, g6⟩ := Kd.N_reads' h5
  exact ⟨A1, A2, _, _, c1, c2, rfl, rfl, g2, g3, rfl, g5, g6, hb⟩
end Go.Proofs.YtpckachmleonlaaGreatDoor
end
section
set_option linter.unusedVariables false
set_option linter.unusedSimpArgs false
namespace Go.Proofs.YtpckachmleonlaaGreatDoor
open Go.RowKit Go.Proofs.YtpckachmleonlaaGreatDoorW.PrintWords
def sA : ByteArray := ⟨#[97]⟩
def sB : ByteArray := ⟨#[98]⟩
def sF : ByteArray := ⟨#[102]⟩
def sE : ByteArray := ⟨#[]⟩
def cA : CellM := ⟨⟨sA, sF, sE, 0⟩, [], false⟩
def cB : CellM := ⟨⟨sB, sF, sE, 0⟩, [], false⟩
theorem alive_of : ofK sE sE [cA, cB] = 0 := by decide +kernel
theorem alive_put : zEd [cA, cB] = [cA, cB] := by decide +kernel
theorem alive_mid : midR [cA, cB] = sB ∧ midB [cA, cB] = true := by decide +kernel
theorem alive_cut : splitK sE sE sB = 0 := by decide +kernel
theorem alive_lo : loC sB [cA, cB] = [cA] := by decide +kernel
theorem alive_hi : hiC sB [cA, cB] = [cB] := by decide +kernel
theorem alive_tab : TabL sE sE [cA, cB] := by
  have h := (TabL.of (a := sE) (b := sE) (l := [cA, cB]) (fun x hx => by
    simp only [List.mem_cons, List.not_mem_nil, or_false] at hx
    rcases hx with rfl | rfl <;> exact ⟨by decide, by decide⟩) alive_of).1
  rw [alive_put] at h
  exact h
theorem C_two {w : World} {g : Nat} {fz : Nat × Nat} (h : w.heap[g]? = some (.cells #[.string sA, .string sF, .string sE, .int .u64 0, .slice none 0 0, .bool false, .string sB, .string sF, .string sE, .int .u64 0, .slice none 0 0, .bool false] 49 fz)) : kC.C w (some ⟨g, 0, none⟩) 2 [cA, cB] := by
  have h1 : kH.C w (some ⟨g, 0, none⟩) 2 ([((⟨cA.f0, ⟨none, 0, 0⟩, false⟩ : Ch), cA), (⟨cB.f0, ⟨none, 0, 0⟩, false⟩, cB)].map (·.1)) := by
    refine ⟨rfl, by simp, fun _ => ⟨_, rfl, fun j p hj => ?_⟩⟩
    have hj0 : j < 2 := (List.getElem?_eq_some_iff.1 hj).1
    rcases (by omega : j = 0 ∨ j = 1) with rfl | rfl
    · obtain rfl := Option.some.inj hj
      refine ⟨_, rfl, rfl, fun i u hu => ?_⟩
      rw [add_plain, cell_of_row w g _ _ 49 fz h]
      have hi : i < 6 := (List.getElem?_eq_some_iff.1 hu).1
      rw [← hu]
      rcases (by omega : i = 0 ∨ i = 1 ∨ i = 2 ∨ i = 3 ∨ i = 4 ∨ i = 5) with rfl | rfl | rfl | rfl | rfl | rfl <;> rfl
    · obtain rfl := Option.some.inj hj
      refine ⟨_, rfl, rfl, fun i u hu => ?_⟩
      rw [add_plain, cell_of_row w g _ _ 49 fz h]
      have hi : i < 6 := (List.getElem?_eq_some_iff.1 hu).1
      rw [← hu]
      rcases (by omega : i = 0 ∨ i = 1 ∨ i = 2 ∨ i = 3 ∨ i = 4 ∨ i = 5) with rfl | rfl | rfl | rfl | rfl | rfl <;> rfl
  have h2 : BAt w ⟨none, 0, 0⟩ [] := ⟨rfl, Nat.le_refl _, ⟨rfl, Nat.zero_le _, fun h => absurd h (by simp)⟩⟩
  exact C_shut (zs := [((⟨cA.f0, ⟨none, 0, 0⟩, false⟩ : Ch), cA), (⟨cB.f0, ⟨none, 0, 0⟩, false⟩, cB)]) h1 (fun z hz => by
    simp only [List.mem_cons, List.not_mem_nil, or_false] at hz
    rcases hz with rfl | rfl
    · exact ⟨rfl, rfl, h2⟩
    · exact ⟨rfl, rfl, h2⟩)
set_option maxHeartbeats 4000000 in
set_option maxRecDepth 100000 in
theorem alive11 (w : World) : Calls Tryz.prog 16 #[] w fun e w' => e = .returned (.bool true) ∧ Below w.heap.size w w' := by
  have HOF : zA (∀ (X : World) (g : Nat), X.heap[g]? = some (.cells #[.string sA, .string sF, .string sE, .int .u64 0, .slice none 0 0, .bool false, .string sB, .string sF, .string sE, .int .u64 0, .slice none 0 0, .bool false] 49 (0, 0)) → Calls Tryz.prog 40 #[.string ⟨#[]⟩, .string ⟨#[]⟩, .slice (some ⟨g, 0, none⟩) 2 2] X fun e w' => ∃ p, e = .returned (.tuple #[.pointer (some ⟨p, 0, none⟩), .int .i64 0]) ∧ TabAt (fun k => X.heap.size ≤ k ∧ k ≠ p) w' p sE sE [cA, cB] ∧ Below X.heap.size X w') := ⟨fun X g hg => by
    refine (tof_any sE sE [cA, cB] (some ⟨g, 0, none⟩) 2 X (C_two hg) (by decide) (fun x hx => by
      simp only [List.mem_cons, List.not_mem_nil, or_false] at hx
      rcases hx with rfl | rfl <;> exact ⟨by decide, by decide⟩)).mono ?_
    rintro e w' ⟨h1, _, h3⟩
    obtain ⟨p, e1, _, h4⟩ := h1 alive_of
    rw [alive_put] at h4
    exact ⟨p, e1, h4, h3⟩⟩
  go_enter Tryz.func16, Tryz.ntmps16
  go_wp2_with fail
  refine (HOF.out _ w.heap.size (heap_alloc_new _ _)).mono ?_
  rintro e w2 ⟨p, rfl, htab, hb⟩
  have HB2 : zA (Below w.heap.size w w2) := ⟨(zAb (Below.refl _ _) _).trans (hb.mono (by simp))⟩
  have HT2 := zA.mk htab
  clear hb htab HOF
  have HMID := zA.mk (middle_any _ w2 p sE sE [cA, cB] HT2.out alive_tab.ok (by decide))
  rw [alive_mid.1, alive_mid.2] at HMID
  go_wp2_with fail
  refine HMID.out.mono ?_
  rintro e w3 ⟨rfl, hb⟩
  have HB3 : zA (Below w.heap.size w w3) := ⟨HB2.out.trans (hb.mono HB2.out.size)⟩
  have HT3 := zA.mk (HT2.out.keep hb)
  clear hb HT2 HB2 HMID
  have HCUT : zA (Calls Tryz.prog 17 #[.pointer (some ⟨p, 0, none⟩), .string ⟨#[98]⟩] w3 fun e w' => ∃ (q r : Nat) (ok1 ok2 : Nat → Prop), e = .returned (.tuple #[.pointer (some ⟨q, 0, none⟩), .pointer (some ⟨r, 0, none⟩), .int .i64 0]) ∧ TabAt ok1 w' q sE sB [cA] ∧ TabAt ok2 w' r sB sE [cB] ∧ Below w3.heap.size w3 w') := ⟨by
    refine (split_tab _ w3 p sE sE [cA, cB] HT3.out alive_tab sB).mono ?_
    rintro e w' ⟨h1, _, h3⟩
    obtain ⟨q, r, e1, _, _, h4, h5⟩ := h1 alive_cut
    rw [alive_lo] at h4
    rw [alive_hi] at h5
    exact ⟨q, r, _, _, e1, h4, h5, h3⟩⟩
  go_wp2_with fail
  refine HCUT.out.mono ?_
  rintro e w4 ⟨q, r, ok1, ok2, rfl, hq, hr, hb⟩
  have HB4 : zA (Below w.heap.size w w4) := ⟨HB3.out.trans (hb.mono HB3.out.size)⟩
  have HQ4 := zA.mk hq
  have HR4 := zA.mk hr
  clear hq hr hb HB3 HT3 HCUT
  have HQA : zA (Calls Tryz.prog 24 #[.pointer (some ⟨q, 0, none⟩)] w4 fun e w' => ∃ A c, e = .returned (.slice A 1 c) ∧ Below w4.heap.size w4 w') := ⟨by
    refine (all_any ok1 w4 q sE sB [cA] HQ4.out (by have h9 := alive_tab.ok.filter (fun x => ltS x.f0.f0 sB); rw [show [cA, cB].filter (fun x => ltS x.f0.f0 sB) = [cA] from alive_lo] at h9; exact h9) (by decide)).mono ?_
    rintro e w' ⟨v, rfl, hr, hb⟩
    obtain ⟨A, c, e2⟩ := Kd.zBc hr
    exact ⟨A, c, by rw [e2]; rfl, hb⟩⟩
  have HRA : zA (∀ X, Below w4.heap.size w4 X → Calls Tryz.prog 24 #[.pointer (some ⟨r, 0, none⟩)] X fun e w' => ∃ A c, e = .returned (.slice A 1 c) ∧ Below X.heap.size X w') := ⟨fun X hX => by
    refine (all_any ok2 X r sB sE [cB] (HR4.out.keep hX) (by have h9 := alive_tab.ok.filter (fun x => !ltS x.f0.f0 sB); rw [show [cA, cB].filter (fun x => !ltS x.f0.f0 sB) = [cB] from alive_hi] at h9; exact h9) (by decide)).mono ?_
    rintro e w' ⟨v, rfl, hr, hb⟩
    obtain ⟨A, c, e2⟩ := Kd.zBc hr
    exact ⟨A, c, by rw [e2]; rfl, hb⟩⟩
  unfold sB at *
  go_wp2_with fail
  refine HQA.out.mono ?_
  rintro e w5 ⟨A5, c5, rfl, hb5⟩
  have HB5 := zA.mk hb5
  clear hb5 HQA
  go_wp2_with fail
  refine (HRA.out _ HB5.out).mono ?_
  rintro e w6 ⟨A6, c6, rfl, hb6⟩
  have HB6 : zA (Below w.heap.size w w6) := ⟨HB4.out.trans ((HB5.out.trans (hb6.mono HB5.out.size)).mono HB4.out.size)⟩
  clear hb6 HRA
  go_wp2_with fail
  go_ret
  exact ⟨rfl, HB6.out⟩
end Go.Proofs.YtpckachmleonlaaGreatDoor
end
section
set_option linter.unusedVariables false
set_option linter.unusedSimpArgs false
namespace Go.Proofs.YtpckachmleonlaaGreatDoor
open Go.RowKit Go.Proofs.YtpckachmleonlaaGreatDoorW.PrintWords
open PSplitCuts (cutR)
theorem made_tab {a b : ByteArray} {l : List CellM} (h : madeB a b l = true) (ht : ∀ x ∈ l, TimeOk x) : TabL a b (zEd l) := by
 unfold madeB at h
 simp only [Bool.and_eq_true, decide_eq_true_eq] at h
 exact (TabL.of ht h.2).1
theorem cut_zero {a b s : ByteArray} {cs : List CellM} (h : splitK a b s = 0) : cutR a b s cs = (a, s, loC s cs, s, b, hiC s cs, 0) := by unfold PSplitCuts.cutR; rw [if_pos h]
theorem cut_some {a b s : ByteArray} (h : splitK a b s = 0) : ltS a s = true ∧ s.size ≤ 32 ∧ s.size ≠ 0 ∧ (b.size = 0 ∨ ltS s b = true) := by
 unfold splitK at h
 split at h
 ·omega
 rename_i h1
 split at h
 ·omega
 rename_i h2
 refine ⟨?_, by omega, by omega, ?_⟩
 ·cases h3 : ltS a s with
  | true => rfl
  | false => exact absurd (.inl h3) h2
 ·by_cases h4 : b.size = 0
  ·exact .inl h4
  ·cases h3 : ltS s b with
   | true => exact .inr rfl
   | false => exact absurd (.inr ⟨h4, h3⟩) h2
set_option maxHeartbeats 8000000 in
set_option maxRecDepth 100000 in
theorem splitCuts_law (a b : ByteArray) (A : Option Addr) (c : Nat) (l : List CellM) (s : ByteArray) (w : World) (hC : kC.C w A l.length l) (hc : l.length ≤ c) (hf : ∀ x ∈ l, Fit x.f0) (ht : ∀ x ∈ l, TimeOk x) :
  Calls Tryz.prog 3 #[.string a, .string b, .slice A l.length c, .string s] w fun e w' => e = .returned (.bool true) ∧ Below w.heap.size w w' := by
 have HT := zA.mk ht
 have HMADE := zA.mk (made_any (fun j => j < w.heap.size) a b l A c w (fun j h => h) (CAt.of hC rfl hc) hf ht)
 obtain ⟨n, hn⟩ : ∃ n, l.length = n := ⟨_, rfl⟩
 rw [hn] at HMADE ⊢
 clear hC hc hf ht hn
 go_enter Tryz.func3, Tryz.ntmps3
 go_wp2_with fail
 refine HMADE.out.mono ?_
 rintro e w1 ⟨pt, a', b', A', n', c', rfl, hm, hb1⟩
 obtain ⟨q, hq⟩ : ∃ q, madeB a b l = q := ⟨_, rfl⟩
 have HQ := zA.mk hq
 rw [hq] at hm ⊢
 have HM := zA.mk hm
 have HB1 := zA.mk hb1
 have HAL : zA (∀ X, Below w.heap.size w X → Calls Tryz.prog 16 #[] X fun e w' => e = .returned (.bool true) ∧ Below w.heap.size w w') := ⟨fun X hX => (alive11 X).mono fun e w' h => ⟨h.1, hX.trans (h.2.mono hX.size)⟩⟩
 clear hq hm hb1 HMADE
 have HB2 : zA (Below w.heap.size w (w1.alloc (.cells #[.string a', .string b', .slice A' n' c'] 25))) := ⟨zAb HB1.out _⟩
 have HBX : zA (Below w1.heap.size w1 (w1.alloc (.cells #[.string a', .string b', .slice A' n' c'] 25))) := ⟨zAb (Below.refl _ _) _⟩
 have HG2 : zA ((w1.alloc (.cells #[.string a', .string b', .slice A' n' c'] 25)).heap[w1.heap.size]? = some (.cells #[.string a', .string b', .slice A' n' c'] 25 (0, 0))) := ⟨heap_alloc_new _ _⟩
 cases q
 case false =>
  go_wp2_with fail
  refine (HAL.out _ HB2.out).mono ?_
  rintro e w3 ⟨rfl, hb⟩
  have HB3 := zA.mk hb
  clear hb
  go_wp2_with fail
  go_ret
  exact ⟨rfl, HB3.out⟩
 case true =>
  rcases Nat.lt_or_ge 100 s.size with h1 | h1
  ·have z1 : decide ((100 : Int) < (s.size : Int)) = true := Cp.dt (by omega)
   clear h1
   go_wp2_with fail
   refine (HAL.out _ HB2.out).mono ?_
   rintro e w3 ⟨rfl, hb⟩
   have HB3 := zA.mk hb
   clear hb
   go_wp2_with fail
   go_ret
   exact ⟨rfl, HB3.out⟩
  have z1 : decide ((100 : Int) < (s.size : Int)) = false := Cp.df (by omega)
  have HS100 := zA.mk h1
  have HTL := zA.mk (made_tab HQ.out HT.out)
  obtain ⟨p, rfl, hp1, htab, ea, eb, hcat⟩ := HM.out rfl
  subst ea eb
  have HTAB := zA.mk (htab.keep HBX.out)
  have HCAT := zA.mk (hcat.keep HBX.out)
  have HLEN := zA.mk HCAT.out.len
  clear h1 hp1 htab hcat HM HQ
  go_upto_region 4 with fail
  generalize w1.alloc (.cells #[.string a', .string b', .slice A' n' c'] 25) = w2 at HB2 HBX HG2 HTAB HCAT ⊢
  generalize w1.heap.size = g at HG2 ⊢
  obtain ⟨cs, hcs⟩ : ∃ cs, zEd l = cs := ⟨_, rfl⟩
  rw [hcs] at HTL HTAB HCAT HLEN
  clear HBX hcs
  have HCUT := zA.mk (split_tab _ w2 p a' b' cs HTAB.out HTL.out s)
  go_wp2_with fail
  refine HCUT.out.mono ?_
  rintro e w3 ⟨hz, hnz, hb⟩
  have HB3 : zA (Below w.heap.size w w3) := ⟨HB2.out.trans (hb.mono HB2.out.size)⟩
  have HG3 := zA.mk (zAi HG2.out hb)
  have HT3 := zA.mk (HTAB.out.keep hb)
  have HC3 : zA (kC.C w3 A' n' cs) := ⟨Kd.zBe HCAT.out.now hb⟩
  have HCAP := zA.mk HCAT.out.cap
  have hall : ∃ p1 p2 : Option Addr, e = .returned (.tuple #[.pointer p1, .pointer p2, .int .i64 (splitK a' b' s)]) ∧ (splitK a' b' s = 0 → ∃ q r, p1 = some ⟨q, 0, none⟩ ∧ p2 = some ⟨r, 0, none⟩ ∧ (∃ ok1, TabAt ok1 w3 q a' s (loC s cs)) ∧ ∃ ok2, TabAt ok2 w3 r s b' (hiC s cs)) ∧ (splitK a' b' s ≠ 0 → p1 = none ∧ p2 = none) := by
   by_cases h0 : splitK a' b' s = 0
   ·obtain ⟨q, r, e1, _, _, h4, h5⟩ := hz h0
    exact ⟨_, _, by rw [e1, h0], fun _ => ⟨q, r, rfl, rfl, ⟨_, h4⟩, ⟨_, h5⟩⟩, fun h => absurd h0 h⟩
   ·exact ⟨none, none, hnz h0, fun h => absurd h h0, fun _ => ⟨rfl, rfl⟩⟩
  obtain ⟨p1, p2, rfl, hz2, hnz2⟩ := hall
  have HZ := zA.mk (And.intro hz2 hnz2)
  have m0 := (zAa HG3.out 0).trans (rfl : _ = some (Value.string a'))
  have m1 := (zAa HG3.out 1).trans (rfl : _ = some (Value.string b'))
  have m2 := (zAa HG3.out 2).trans (rfl : _ = some (Value.slice A' n' c'))
  have hlg := zBa HG3.out
  have hrs := rsplit_any a' b' s A' c' cs w3 (by rw [← HLEN.out]; exact HC3.out) (by rw [← HLEN.out]; exact HCAP.out) HTL.out (by have := HS100.out; omega)
  rw [← HLEN.out] at hrs
  have HRS := zA.mk hrs
  clear hz hnz hb hz2 hnz2 HCUT hrs HG2 HTAB HCAT HB2
  go_wp2_with fail
  refine HRS.out.mono ?_
  rintro e w4 ⟨A1, A2, n1, n2, c1, c2, rfl, e1, hc1, hk1, e2, hc2, hk2, hb⟩
  have HR4 := zA.mk (And.intro e1 (And.intro hc1 (And.intro hk1 (And.intro e2 (And.intro hc2 hk2)))))
  have HB4 : zA (Below w.heap.size w w4) := ⟨HB3.out.trans (hb.mono HB3.out.size)⟩
  have HG4 := zA.mk (zAi HG3.out hb)
  have HT4 := zA.mk (HT3.out.keep hb)
  have HC4 : zA (kC.C w4 A' n' cs) := ⟨Kd.zBe HC3.out hb⟩
  have HZ4 : zA ((splitK a' b' s = 0 → ∃ q r, p1 = some ⟨q, 0, none⟩ ∧ p2 = some ⟨r, 0, none⟩ ∧ (∃ ok1, TabAt ok1 w4 q a' s (loC s cs)) ∧ ∃ ok2, TabAt ok2 w4 r s b' (hiC s cs)) ∧ (splitK a' b' s ≠ 0 → p1 = none ∧ p2 = none)) := ⟨fun h => by
   obtain ⟨q, r, e3, e4, ⟨ok1, h1⟩, ⟨ok2, h2⟩⟩ := HZ.out.1 h
   exact ⟨q, r, e3, e4, ⟨ok1, h1.keep hb⟩, ⟨ok2, h2.keep hb⟩⟩, HZ.out.2⟩
  have HCZ : zA (splitK a' b' s = 0 → cutR a' b' s cs = (a', s, loC s cs, s, b', hiC s cs, 0)) := ⟨cut_zero⟩
  clear e1 hc1 hk1 e2 hc2 hk2 hb HRS HZ HG3 HT3 HC3 HB3 m0 m1 m2 hlg
  generalize cutR a' b' s cs = R at HR4 HCZ ⊢
  obtain ⟨r1, r2, r3, r4, r5, r6, r7⟩ := R
  simp only at HR4 ⊢
  obtain ⟨kk, hkk⟩ : ∃ kk, splitK a' b' s = kk := ⟨_, rfl⟩
  have HKK := zA.mk hkk
  rw [hkk] at HZ4 HCZ ⊢
  clear hkk
  have HB5 : zA (Below w4.heap.size w4 ((w4.alloc (.cells #[.string r1, .string r2, .slice A1 n1 c1] 25)).alloc (.cells #[.string r4, .string r5, .slice A2 n2 c2] 25))) := ⟨zAb (zAb (Below.refl _ _) _) _⟩
  have HP5 : zA (((w4.alloc (.cells #[.string r1, .string r2, .slice A1 n1 c1] 25)).alloc (.cells #[.string r4, .string r5, .slice A2 n2 c2] 25)).heap[w4.heap.size]? = some (.cells #[.string r1, .string r2, .slice A1 n1 c1] 25 (0, 0))) := ⟨zAe (heap_alloc_new _ _) _⟩
  have HQ5 : zA (((w4.alloc (.cells #[.string r1, .string r2, .slice A1 n1 c1] 25)).alloc (.cells #[.string r4, .string r5, .slice A2 n2 c2] 25)).heap[w4.heap.size + 1]? = some (.cells #[.string r4, .string r5, .slice A2 n2 c2] 25 (0, 0))) := ⟨Cp.blk_new2 _ _ _⟩
  go_upto_region 6 with fail
  generalize (w4.alloc (.cells #[.string r1, .string r2, .slice A1 n1 c1] 25)).alloc (.cells #[.string r4, .string r5, .slice A2 n2 c2] 25) = w5 at HB5 HP5 HQ5 ⊢
  have HMID := zA.mk (middle_any _ w5 p a' b' cs (HT4.out.keep HB5.out) HTL.out.ok (by have := HTL.out.len; omega))
  obtain ⟨mr, hmr⟩ : ∃ x, midR cs = x := ⟨_, rfl⟩
  obtain ⟨mb, hmb⟩ : ∃ x, midB cs = x := ⟨_, rfl⟩
  have HMM := zA.mk (And.intro hmr hmb)
  rw [hmr, hmb] at HMID
  clear hmr hmb
  go_wp2_with fail
  refine HMID.out.mono ?_
  rintro e w6 ⟨rfl, hb⟩
  have HBX : zA (Below w4.heap.size w4 w6) := ⟨HB5.out.trans (hb.mono HB5.out.size)⟩
  have HP6 := zA.mk (zAi HP5.out hb)
  have HQ6 := zA.mk (zAi HQ5.out hb)
  have HG6 := zA.mk (zAi HG4.out HBX.out)
  have m0 := (zAa HG6.out 0).trans (rfl : _ = some (Value.string a'))
  have m1 := (zAa HG6.out 1).trans (rfl : _ = some (Value.string b'))
  have m2 := (zAa HG6.out 2).trans (rfl : _ = some (Value.slice A' n' c'))
  have hlg := zBa HG6.out
  have hrm := rmiddle_any a' b' A' c' cs w6 (by rw [← HLEN.out]; exact Kd.zBe HC4.out HBX.out) (by rw [← HLEN.out]; exact HCAP.out) (by have := HTL.out.len; omega)
  rw [← HLEN.out, HMM.out.1, HMM.out.2] at hrm
  have HRM := zA.mk hrm
  clear hrm hb HMID HB5 HP5 HQ5
  go_wp2_with fail
  refine HRM.out.mono ?_
  rintro e w7 ⟨rfl, hb⟩
  have HB7 : zA (Below w4.heap.size w4 w7) := ⟨HBX.out.trans (hb.mono HBX.out.size)⟩
  have HP7 := zA.mk (zAi HP6.out hb)
  have HQ7 := zA.mk (zAi HQ6.out hb)
  have HG7 := zA.mk (zAi HG6.out hb)
  have HBW : zA (Below w.heap.size w w7) := ⟨HB4.out.trans (HB7.out.mono HB4.out.size)⟩
  clear m0 m1 m2 hlg hb HRM HBX HP6 HQ6 HG6
  have y1 : (kk == kk) = true := beq_self_eq_true kk
  have y2 : (mb == mb) = true := by cases mb <;> rfl
  by_cases h0 : kk = 0
  case neg =>
   have z2 : (kk == 0) = false := by simpa using h0
   obtain ⟨ea, eb⟩ := HZ4.out.2 h0
   subst ea eb
   clear h0
   cases mb
   all_goals (
    go_wp2_with fail
    refine (HAL.out _ HBW.out).mono ?_
    rintro e w8 ⟨rfl, hb⟩
    have HB8 := zA.mk hb
    clear hb
    go_wp2_with fail
    go_ret
    exact ⟨rfl, HB8.out⟩)
  case pos =>
   subst h0
   obtain ⟨q, r, e3, e4, ⟨ok1, ht1⟩, ⟨ok2, ht2⟩⟩ := HZ4.out.1 rfl
   subst e3 e4
   have hcz := HCZ.out rfl
   simp only [Prod.mk.injEq] at hcz
   obtain ⟨x1, x2, x3, x4, x5, x6, _⟩ := hcz
   have x1 := x1.symm
   have x2 := x2.symm
   have x3 := x3.symm
   have x4 := x4.symm
   have x5 := x5.symm
   have x6 := x6.symm
   subst x1 x2 x3 x4 x5 x6
   have hcut := cut_some HKK.out
   have HT1 := zA.mk (ht1.keep HB7.out)
   have HT2 := zA.mk (ht2.keep HB7.out)
   have HT7 := zA.mk (HT4.out.keep HB7.out)
   have HL1 : zA (TabL a' s (loC s cs) ∧ TabL s b' (hiC s cs)) := ⟨HTL.out.lo hcut.1 hcut.2.1 hcut.2.2.1, HTL.out.hi hcut.2.2.2 hcut.2.1⟩
   have HS1 : zA (∀ X, Below w7.heap.size w7 X → Calls Tryz.prog 21 #[.pointer (some ⟨q, 0, none⟩), .agg #[.string a', .string s, .slice A1 n1 c1]] X fun e w' => e = .returned (.bool true) ∧ Below w7.heap.size w7 w') := ⟨fun X hX => by
    have h9 := same_true ok1 X q a' s (loC s cs) (HT1.out.keep hX) HL1.out.1.ok (by have := HL1.out.1.len; omega) A1 c1 (by rw [← HR4.out.1]; exact Kd.zBe HR4.out.2.2.1 (HB7.out.trans (hX.mono HB7.out.size)))
    rw [← HR4.out.1] at h9
    exact h9.mono fun e w' h => ⟨h.1, hX.trans (h.2.mono hX.size)⟩⟩
   have HS2 : zA (∀ X, Below w7.heap.size w7 X → Calls Tryz.prog 21 #[.pointer (some ⟨r, 0, none⟩), .agg #[.string s, .string b', .slice A2 n2 c2]] X fun e w' => e = .returned (.bool true) ∧ Below w7.heap.size w7 w') := ⟨fun X hX => by
    have h9 := same_true ok2 X r s b' (hiC s cs) (HT2.out.keep hX) HL1.out.2.ok (by have := HL1.out.2.len; omega) A2 c2 (by rw [← HR4.out.2.2.2.1]; exact Kd.zBe HR4.out.2.2.2.2.2 (HB7.out.trans (hX.mono HB7.out.size)))
    rw [← HR4.out.2.2.2.1] at h9
    exact h9.mono fun e w' h => ⟨h.1, hX.trans (h.2.mono hX.size)⟩⟩
   have HS3 : zA (∀ X, Below w7.heap.size w7 X → Calls Tryz.prog 21 #[.pointer (some ⟨p, 0, none⟩), .agg #[.string a', .string b', .slice A' n' c']] X fun e w' => e = .returned (.bool true) ∧ Below w7.heap.size w7 w') := ⟨fun X hX => by
    have h9 := same_true _ X p a' b' cs (HT7.out.keep hX) HTL.out.ok (by have := HTL.out.len; omega) A' c' (by rw [← HLEN.out]; exact Kd.zBe HC4.out (HB7.out.trans (hX.mono HB7.out.size)))
    rw [← HLEN.out] at h9
    exact h9.mono fun e w' h => ⟨h.1, hX.trans (h.2.mono hX.size)⟩⟩
   have k0 := (zAa HP7.out 0).trans (rfl : _ = some (Value.string a'))
   have k1 := (zAa HP7.out 1).trans (rfl : _ = some (Value.string s))
   have k2 := (zAa HP7.out 2).trans (rfl : _ = some (Value.slice A1 n1 c1))
   have hl1 := zBa HP7.out
   clear ht1 ht2 hcut HZ4 HCZ HR4 HKK
   cases mb
   all_goals (
    go_wp2_with fail
    refine (HS1.out _ (Below.refl _ _)).mono ?_
    rintro e w8 ⟨rfl, hb8⟩
    have HB8 := zA.mk hb8
    have HQ8 := zA.mk (zAi HQ7.out hb8)
    have HG8 := zA.mk (zAi HG7.out hb8)
    have l0 := (zAa HQ8.out 0).trans (rfl : _ = some (Value.string s))
    have l1 := (zAa HQ8.out 1).trans (rfl : _ = some (Value.string b'))
    have l2 := (zAa HQ8.out 2).trans (rfl : _ = some (Value.slice A2 n2 c2))
    have hl2 := zBa HQ8.out
    clear hb8 HS1 k0 k1 k2 hl1
    go_wp2_with fail
    refine (HS2.out _ HB8.out).mono ?_
    rintro e w9 ⟨rfl, hb9⟩
    have HB9 := zA.mk hb9
    have HG9 := zA.mk (zAi HG7.out hb9)
    have m0 := (zAa HG9.out 0).trans (rfl : _ = some (Value.string a'))
    have m1 := (zAa HG9.out 1).trans (rfl : _ = some (Value.string b'))
    have m2 := (zAa HG9.out 2).trans (rfl : _ = some (Value.slice A' n' c'))
    have hl3 := zBa HG9.out
    clear hb9 HS2 l0 l1 l2 hl2 HG8 HQ8
    go_wp2_with fail
    refine (HS3.out _ HB9.out).mono ?_
    rintro e w10 ⟨rfl, hb10⟩
    have HB10 : zA (Below w.heap.size w w10) := ⟨HBW.out.trans (hb10.mono HBW.out.size)⟩
    clear hb10 HS3 m0 m1 m2 hl3 HG9
    go_wp2_with fail
    refine (HAL.out _ HB10.out).mono ?_
    rintro e w11 ⟨rfl, hb⟩
    have HB11 := zA.mk hb
    clear hb
    go_wp2_with fail
    go_ret
    exact ⟨rfl, HB11.out⟩)
end Go.Proofs.YtpckachmleonlaaGreatDoor
end
