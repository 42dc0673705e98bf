/- Words and walks for Split and Tablet: texts of these sessions, and of the kit's print, cut down to what is used (I3 H3 Q3). -/
import Derived.Test.YtpckachmleonlaaGreatDoorCv32
import Derived.Test.YtpckachmleonlaaGreatDoorCv33
import Derived.Test.YtpckachmleonlaaGreatDoorCv30
section
set_option linter.unusedVariables false
set_option linter.unusedSimpArgs false
namespace Go.Proofs.YtpckachmleonlaaGreatDoor.PSplitCuts
open Go.RowKit Go.Proofs.YtpckachmleonlaaGreatDoorW.PrintWords Go.Proofs.YtpckachmleonlaaGreatDoorW.PrintMore Cp
theorem w64 {i : Int} (h0 : -1000000000 ≤ i) (h1 : i ≤ 1000000000) : wrap64 i = i := by unfold wrap64; omega
theorem bt_list (s : ByteArray) (i : Nat) (h : i < s.size) : bt s (i : Int) = ((s.data.toList.getD i 0).toNat : Int) := by
  have h' : i < s.data.toList.length := by rw [zDc]; exact h
  unfold bt
  rw [dif_pos (by simpa using h)]
  rw [List.getD_eq_getElem?_getD, List.getElem?_eq_getElem h']
  rfl
theorem drop_cons {l : List UInt8} {i : Nat} (h : i < l.length) : l.drop i = l.getD i 0 :: l.drop (i + 1) := by
  rw [List.drop_eq_getElem_cons h, List.getD_eq_getElem?_getD, List.getElem?_eq_getElem h]
  rfl
theorem text_l (a b : ByteArray) (ha : a.size ≤ 10000) (hb : b.size ≤ 10000) : ∀ (d : Nat) (k i : Nat), i ≤ a.size → i ≤ b.size → a.size - i = d → 2 * d + 2 ≤ k → bulwarkref04_Text.l0 k a b (i : Int) = some (cmpL (a.data.toList.drop i) (b.data.toList.drop i)) := by
  intro d
  induction d with
  | zero =>
    intro k i h1 h2 hd hk
    obtain ⟨k, rfl⟩ : ∃ m, k = m + 2 := ⟨k - 2, by omega⟩
    have e : a.data.toList.drop i = [] := List.drop_eq_nil_of_le (by rw [zDc]; omega)
    have hbl : (b.data.toList.drop i).length = b.size - i := by rw [List.length_drop, zDc]
    simp only [bulwarkref04_Text.l0]
    rw [if_neg (by omega)]
    simp only [bulwarkref04_Text.j1]
    rw [if_neg (by simp), e, cmpL_nil, hbl]
    by_cases hs : a.size = b.size
    · rw [if_pos (by omega), if_pos (by omega)]
    · rw [if_neg (by omega), if_pos (by omega), if_neg (by omega)]
  | succ d ih =>
    intro k i h1 h2 hd hk
    obtain ⟨k, rfl⟩ : ∃ m, k = m + 2 := ⟨k - 2, by omega⟩
    have ea := drop_cons (l := a.data.toList) (i := i) (by rw [zDc]; omega)
    simp only [bulwarkref04_Text.l0]
    rw [if_pos (by omega)]
    simp only [bulwarkref04_Text.j1]
    by_cases hlt : i < b.size
    · have eb := drop_cons (l := b.data.toList) (i := i) (by rw [zDc]; omega)
      rw [if_pos (by simpa using hlt), if_pos (by omega), if_pos (by omega), if_pos (by omega), bt_list a i (by omega), bt_list b i hlt, ea, eb]
      unfold cmpL
      by_cases he : a.data.toList.getD i 0 = b.data.toList.getD i 0
      · rw [if_pos (by rw [he]), if_pos he, w64 (by omega) (by omega)]
        exact ih k (i + 1) (by omega) (by omega) (by omega) (by omega)
      · have hn : ¬ (((a.data.toList.getD i 0).toNat : Int) = ((b.data.toList.getD i 0).toNat : Int)) := fun h => he (UInt8.toNat_inj.1 (by omega))
        rw [if_neg hn, if_neg he]
        by_cases hl : a.data.toList.getD i 0 < b.data.toList.getD i 0
        · have hl' : (a.data.toList.getD i 0).toNat < (b.data.toList.getD i 0).toNat := hl
          rw [if_pos (by omega), if_pos hl]
        · have hl' : ¬ (a.data.toList.getD i 0).toNat < (b.data.toList.getD i 0).toNat := hl
          rw [if_neg (by omega), if_neg hl]
    · have eb : b.data.toList.drop i = [] := List.drop_eq_nil_of_le (by rw [zDc]; omega)
      have hal : (a.data.toList.drop i).length = a.size - i := by rw [List.length_drop, zDc]
      rw [if_neg (by simpa using hlt), eb, cmpL_nil', hal, if_neg (by omega), if_neg (by omega), if_neg (by omega)]
theorem text_f (a b : ByteArray) (k : Nat) (ha : a.size ≤ 10000) (hb : b.size ≤ 10000) (hk : 30000 ≤ k) : bulwarkref04_Text.f k a b = some (cmpL a.data.toList b.data.toList) := by
  unfold bulwarkref04_Text.f
  have := text_l a b ha hb a.size k 0 (by omega) (by omega) (by omega) (by omega)
  simpa using this
theorem rd_list (l : List Int) (i : Nat) : rd l (i : Int) = l.getD i 0 := by unfold rd; simp
theorem same_l (a b : List Int) (hab : a.length = b.length) (ha : a.length ≤ 10000) : ∀ (d k i : Nat), i ≤ a.length → a.length - i = d → d + 1 ≤ k → bulwarkref01_Same.l0 k a b (i : Int) = some (decide (a.drop i = b.drop i)) := by
  intro d
  induction d with
  | zero =>
    intro k i h1 hd hk
    obtain ⟨k, rfl⟩ : ∃ m, k = m + 1 := ⟨k - 1, by omega⟩
    simp only [bulwarkref01_Same.l0]
    rw [if_neg (by omega), List.drop_eq_nil_of_le (by omega), List.drop_eq_nil_of_le (by omega)]
    simp
  | succ d ih =>
    intro k i h1 hd hk
    obtain ⟨k, rfl⟩ : ∃ m, k = m + 1 := ⟨k - 1, by omega⟩
    simp only [bulwarkref01_Same.l0]
    have h3 : i < a.length := by omega
    have h4 : i < b.length := by omega
    have e : (a.drop i = b.drop i) ↔ a[i] = b[i] ∧ a.drop (i + 1) = b.drop (i + 1) := by
      conv => lhs; rw [List.drop_eq_getElem_cons h3, List.drop_eq_getElem_cons h4]
      exact List.cons_eq_cons
    rw [if_pos (by omega), if_pos (by omega), if_pos (by omega), rd_list, rd_list, List.getD_eq_getElem?_getD, List.getD_eq_getElem?_getD, List.getElem?_eq_getElem h3, List.getElem?_eq_getElem h4]
    simp only [Option.getD_some]
    by_cases he : a[i] = b[i]
    · rw [if_pos he, w64 (by omega) (by omega), show ((i : Int) + 1) = ((i + 1 : Nat) : Int) by omega, ih k (i + 1) (by omega) (by omega) (by omega)]
      congr 1
      rw [decide_eq_decide, e]
      exact ⟨fun h => ⟨he, h⟩, fun h => h.2⟩
    · rw [if_neg he]
      congr 1
      rw [eq_comm, decide_eq_false_iff_not, e]
      exact fun h => he h.1
theorem refCmp_f (r f q : ByteArray) (t : Int) (r' f' q' : ByteArray) (t' : Int) (k : Nat) (hk : 30000 ≤ k) (h1 : r.size ≤ 10000) (h2 : f.size ≤ 10000) (h3 : q.size ≤ 10000) (h4 : r'.size ≤ 10000) (h5 : f'.size ≤ 10000) (h6 : q'.size ≤ 10000) :
    bulwarkref04_Cmp.f k r f q t r' f' q' t' = some (zGc r f q t r' f' q' t') := by
  unfold bulwarkref04_Cmp.f zGc
  rw [text_f _ _ k h1 h4 hk, text_f _ _ k h2 h5 hk, text_f _ _ k h3 h6 hk]
  simp only [Option.bind_some]
  split
  · split
    · split
      · unfold cmpU
        rcases Int.lt_trichotomy t' t with h | h | h
        · rw [if_neg (by omega), if_pos (by omega), if_pos h]
        · rw [if_pos h.symm, if_neg (by omega), if_neg (by omega)]
        · rw [if_neg (by omega), if_neg (by omega), if_neg (by omega), if_pos (by omega)]
      · rfl
    · rfl
  · rfl
theorem rsame_f (a b : List Int) (k : Nat) (ha : a.length ≤ 10000) (hk : 20000 ≤ k) : bulwarkref01_Same.f k a b = some (decide (a = b)) := by
  unfold bulwarkref01_Same.f
  by_cases h : a.length = b.length
  · rw [if_pos (by omega)]
    have := same_l a b h ha a.length k 0 (by omega) (by omega) (by omega)
    simp only [List.drop_zero] at this
    rw [show ((0 : Nat) : Int) = 0 from rfl] at this
    rw [this]
  · rw [if_neg (by omega)]
    have : ¬ a = b := fun e => h (by rw [e])
    simp [this]
end Go.Proofs.YtpckachmleonlaaGreatDoor.PSplitCuts
namespace Go.Proofs.YtpckachmleonlaaGreatDoor
open Go.RowKit Go.Proofs.YtpckachmleonlaaGreatDoorW.PrintWords
structure Sh (k : KeyM) : Prop where
  a : k.f0.size ≤ 10000
  b : k.f1.size ≤ 10000
  c : k.f2.size ≤ 10000
theorem rcmp_any {a b : KeyM} (ha : Sh a) (hb : Sh b) (w : World) : Calls Tryz.prog 43 #[keyV a, keyV b] w fun e w' => e = .returned (.int .i64 (cmpK a b)) ∧ Below w.heap.size w w' :=
  PSplitCuts.bulwarkref04_Cmp.calls 100000 _ _ _ _ _ _ _ _ _ w (PSplitCuts.refCmp_f _ _ _ _ _ _ _ _ _ (by omega) ha.a ha.b ha.c hb.a hb.b hb.c)
theorem rcol_f (a b : KeyM) : PSplitCuts.bulwarkref04_Column.f a.f0 a.f1 a.f2 a.f3 b.f0 b.f1 b.f2 b.f3 = some (colB a b) := by
  obtain ⟨r, f, q, t⟩ := a
  obtain ⟨r', f', q', t'⟩ := b
  unfold PSplitCuts.bulwarkref04_Column.f colB
  simp only [ba_eq]
  split
  · rename_i h
    split
    · rename_i h2
      rw [Option.some.injEq]
      by_cases h3 : q = q'
      · subst h3
        simp [h, h2]
      · have h4 : ¬ q.toList = q'.toList := fun e => h3 (ba_eq.1 e)
        simp [h3, h4]
    · rename_i h2
      simp [h2]
  · rename_i h
    simp [h]
theorem rcol_any (a b : KeyM) (w : World) : Calls Tryz.prog 44 #[keyV a, keyV b] w fun e w' => e = .returned (.bool (colB a b)) ∧ Below w.heap.size w w' :=
  PSplitCuts.bulwarkref04_Column.calls _ _ _ _ _ _ _ _ _ w (rcol_f a b)
theorem rsame_any (A0 : Option Addr) (c0 : Nat) (l0 : List Int) (A1 : Option Addr) (c1 : Nat) (l1 : List Int) (w : World) (hr0 : kB.C w A0 l0.length l0) (hc0 : l0.length ≤ c0) (hr1 : kB.C w A1 l1.length l1) (hc1 : l1.length ≤ c1) (hl : l0.length ≤ 10000) :
    Calls Tryz.prog 25 #[.slice A0 l0.length c0, .slice A1 l1.length c1] w fun e w' => e = .returned (.bool (decide (l0 = l1))) ∧ Below w.heap.size w w' :=
  (PSplitCuts.bulwarkref01_Same.calls 100000 A0 c0 l0 A1 c1 l1 _ w hr0 hc0 hr1 hc1 (PSplitCuts.rsame_f _ _ _ hl (by omega))).mono fun e w' h => ⟨h.1, h.2.below⟩
end Go.Proofs.YtpckachmleonlaaGreatDoor
end
section
set_option linter.unusedVariables false
set_option linter.unusedSimpArgs false
namespace Go.Proofs.YtpckachmleonlaaGreatDoor
open Go.RowKit Go.Proofs.YtpckachmleonlaaGreatDoorW.PrintWords
def kFlat {α : Type} (n : Nat) (enc : α → List Value) (hl : ∀ x, (enc x).length = n) (h1 : ∀ x, ∀ u ∈ enc x, u.oneCell' = true) : Kd α where
  sz := n
  E := []
  K := fun _ x cs => cs = enc x
  M := fun _ _ _ x cs => cs = enc x
  K_len := fun h => by rw [h]; exact hl _
  K_one := fun h u hu => by
    rw [h] at hu
    exact h1 _ u hu
  K_below := fun _ h => h
  K_of_M := fun h => h
  M_mono := fun _ h => h
  M_bound := fun h => h
  M_move := fun _ h => h
  M_lower := fun _ h => h
structure Ch where
  k : KeyM
  h : Hd
  g : Bool
def chV (x : Ch) : List Value := [.string x.k.f0, .string x.k.f1, .string x.k.f2, .int .u64 x.k.f3, .slice x.h.A x.h.n x.h.c, .bool x.g]
def kH : Kd Ch := kFlat 6 chV (fun _ => rfl) (fun x u hu => by
  unfold chV at hu
  simp only [List.mem_cons, List.not_mem_nil, or_false] at hu
  rcases hu with rfl | rfl | rfl | rfl | rfl | rfl <;> rfl)
structure ChOk (w : World) (z : Ch × CellM) : Prop where
  k : z.1.k = z.2.f0
  g : z.1.g = z.2.f2
  b : BAt w z.1.h z.2.f1
theorem kC_K {w : World} {x : CellM} {cs : List Value} (h : kC.K w x cs) : ∃ y : Ch, ChOk w (y, x) ∧ cs = chV y := by
  obtain ⟨⟨r, f, q, t⟩, v, g⟩ := x
  obtain ⟨c0, c1, rfl, h0, c2, c3, rfl, ⟨A, c, rfl, h2, h3⟩, h4⟩ := h
  obtain ⟨d0, d1, rfl, e0, d2, d3, rfl, e1, d4, d5, rfl, e2, e3⟩ := h0
  simp only at e0 e1 e2 e3 h4
  rw [show d0 = [.string r] from e0, show d2 = [.string f] from e1, show d4 = [.string q] from e2, show d5 = [.int .u64 t] from e3, show c3 = [.bool g] from h4]
  exact ⟨⟨⟨r, f, q, t⟩, ⟨A, v.length, c⟩, g⟩, ⟨rfl, rfl, ⟨rfl, h2, h3⟩⟩, rfl⟩
theorem kC_of {w : World} {x : CellM} {y : Ch} (h : ChOk w (y, x)) : kC.K w x (chV y) := by
  obtain ⟨⟨r, f, q, t⟩, v, g⟩ := x
  obtain ⟨k, hh, g'⟩ := y
  obtain ⟨h1, h2, h3⟩ := h
  simp only at h1 h2 h3
  subst h1 h2
  obtain ⟨A, n, c⟩ := hh
  have hn := h3.n
  simp only at hn
  subst hn
  exact ⟨[.string r, .string f, .string q, .int .u64 t], [.slice A v.length c, .bool g'], rfl, ⟨[.string r], _, rfl, rfl, [.string f], _, rfl, rfl, [.string q], _, rfl, rfl, rfl⟩, [.slice A v.length c], _, rfl, ⟨A, c, rfl, h3.c, h3.row⟩, rfl⟩
theorem C_open {w : World} {A : Option Addr} {n : Nat} {xs : List CellM} (h : kC.C w A n xs) : ∃ zs : List (Ch × CellM), zs.map (·.2) = xs ∧ kH.C w A n (zs.map (·.1)) ∧ ∀ z ∈ zs, ChOk w z := by
  obtain ⟨hn, hm, hr⟩ := h
  have hex : ∀ ad : Addr, (∀ j p, xs[j]? = some p → ∃ c, c.length = kC.sz ∧ kC.K w p c ∧ ∀ i u, c[i]? = some u → w.cell? (ad.add (j * kC.sz + i)) = some u) →
      ∀ (ys : List CellM) (o : Nat), (∀ j p, ys[j]? = some p → xs[o + j]? = some p) → ∃ zs : List (Ch × CellM), zs.map (·.2) = ys ∧ (∀ j z, zs[j]? = some z → ∀ i u, (chV z.1)[i]? = some u → w.cell? (ad.add ((o + j) * kC.sz + i)) = some u) ∧ ∀ z ∈ zs, ChOk w z := by
    intro ad had ys
    induction ys with
    | nil => exact fun o _ => ⟨[], rfl, fun j z hj => by simp at hj, fun z hz => by cases hz⟩
    | cons y ys ih =>
      intro o ho
      obtain ⟨zs, e1, e2, e3⟩ := ih (o + 1) (fun j p hj => by have := ho (j + 1) p (by simpa using hj); rw [show o + 1 + j = o + (j + 1) by omega]; exact this)
      obtain ⟨c, h1, h2, h3⟩ := had o y (ho 0 y rfl)
      obtain ⟨x, h4, rfl⟩ := kC_K h2
      refine ⟨(x, y) :: zs, by rw [List.map_cons, e1], fun j z hj => ?_, fun z hz => ?_⟩
      · cases j with
        | zero =>
          obtain rfl : (x, y) = z := by simpa using hj
          simpa using h3
        | succ j =>
          have := e2 j z (by simpa using hj)
          rw [show o + (j + 1) = o + 1 + j by omega]
          exact this
      · rcases List.mem_cons.1 hz with rfl | hz
        · exact h4
        · exact e3 z hz
  rcases Nat.eq_zero_or_pos n with h0 | h0
  · have : xs = [] := List.length_eq_zero_iff.1 (by omega)
    subst this
    exact ⟨[], rfl, ⟨hn, hm, fun h => by omega⟩, fun z hz => by cases hz⟩
  · obtain ⟨ad, rfl, hc⟩ := hr h0
    obtain ⟨zs, e1, e2, e3⟩ := hex ad hc xs 0 (fun j p hj => by simpa using hj)
    refine ⟨zs, e1, ⟨by rw [List.length_map, ← List.length_map (f := (·.2)), e1]; exact hn, hm, fun _ => ⟨ad, rfl, fun j p hj => ?_⟩⟩, e3⟩
    rw [List.getElem?_map, Option.map_eq_some_iff] at hj
    obtain ⟨z, hz, rfl⟩ := hj
    refine ⟨chV z.1, rfl, rfl, fun i u hu => ?_⟩
    have := e2 j z hz i u hu
    rw [Nat.zero_add] at this
    exact this
theorem C_shut {w : World} {A : Option Addr} {n : Nat} {zs : List (Ch × CellM)} (h : kH.C w A n (zs.map (·.1))) (hz : ∀ z ∈ zs, ChOk w z) : kC.C w A n (zs.map (·.2)) := by
  obtain ⟨hn, hm, hr⟩ := h
  refine ⟨by rw [List.length_map] at hn ⊢; exact hn, hm, fun h0 => ?_⟩
  obtain ⟨ad, rfl, hc⟩ := hr h0
  refine ⟨ad, rfl, fun j p hj => ?_⟩
  rw [List.getElem?_map, Option.map_eq_some_iff] at hj
  obtain ⟨z, hzj, rfl⟩ := hj
  obtain ⟨c, h1, h2, h3⟩ := hc j z.1 (by rw [List.getElem?_map, hzj]; rfl)
  rw [show c = chV z.1 from h2] at h3
  exact ⟨chV z.1, rfl, kC_of (hz z (List.mem_of_getElem? hzj)), h3⟩
theorem at_kH {w : World} {A : Option Addr} {n : Nat} {hs : List Ch} (h : kH.C w A n hs) (k : Nat) (h1 : k < n) : ∃ ad x, A = some ad ∧ hs[k]? = some x ∧ w.cell? (ad.add (k * 6)) = some (.string x.k.f0) ∧ w.cell? ⟨(ad.add (k * 6)).block, (ad.add (k * 6)).off + 1, none⟩ = some (.string x.k.f1) ∧ w.cell? ⟨(ad.add (k * 6)).block, (ad.add (k * 6)).off + 2, none⟩ = some (.string x.k.f2) ∧ w.cell? ⟨(ad.add (k * 6)).block, (ad.add (k * 6)).off + 3, none⟩ = some (.int .u64 x.k.f3) ∧ w.cell? ⟨(ad.add (k * 6)).block, (ad.add (k * 6)).off + 4, none⟩ = some (.slice x.h.A x.h.n x.h.c) ∧ w.cell? ⟨(ad.add (k * 6)).block, (ad.add (k * 6)).off + 5, none⟩ = some (.bool x.g) := by
  obtain ⟨hn, hm, hr⟩ := h
  obtain ⟨ad, rfl, hc⟩ := hr (by omega)
  obtain ⟨x, hx⟩ : ∃ x, hs[k]? = some x := ⟨hs[k]'(by omega), List.getElem?_eq_getElem (by omega)⟩
  obtain ⟨c, h2, h3, h4⟩ := hc k x hx
  rw [show c = chV x from h3] at h4
  have hc2 : ∀ i u, (chV x)[i]? = some u → w.cell? (ad.add (k * 6 + i)) = some u := h4
  exact ⟨ad, x, rfl, hx, hc2 0 _ rfl, by rw [← zEk _ _ 1 (by omega)]; exact hc2 1 _ rfl, by rw [← zEk _ _ 2 (by omega)]; exact hc2 2 _ rfl, by rw [← zEk _ _ 3 (by omega)]; exact hc2 3 _ rfl, by rw [← zEk _ _ 4 (by omega)]; exact hc2 4 _ rfl, by rw [← zEk _ _ 5 (by omega)]; exact hc2 5 _ rfl⟩
end Go.Proofs.YtpckachmleonlaaGreatDoor
end
section
set_option linter.unusedVariables false
set_option linter.unusedSimpArgs false
namespace Go.Proofs.YtpckachmleonlaaGreatDoor
open Go.RowKit Go.Proofs.YtpckachmleonlaaGreatDoorW.PrintWords
structure CAt (ok : Nat → Prop) (w : World) (A : Option Addr) (n c : Nat) (xs : List CellM) : Prop where
  len : n = xs.length
  cap : n ≤ c
  ex : ∃ zs : List (Ch × CellM), zs.map (·.2) = xs ∧ FF (fun W => kH.C W A n (zs.map (·.1))) ok w ∧ ∀ z ∈ zs, z.1.k = z.2.f0 ∧ z.1.g = z.2.f2 ∧ FF (fun W => BAt W z.1.h z.2.f1) ok w
theorem cell_heap {w W : World} {p : Addr} {v : Value} (h : w.cell? p = some v) (hb : W.heap[p.block]? = w.heap[p.block]?) : W.cell? p = some v := by
  unfold World.cell? at h ⊢
  rw [hb]
  exact h
theorem kH_FF {w : World} {A : Option Addr} {n : Nat} {hs : List Ch} (h : kH.C w A n hs) : FF (fun W => kH.C W A n hs) (fun k => k < w.heap.size) w := fun W hW => by
  obtain ⟨hn, hm, hr⟩ := h
  refine ⟨hn, hm, fun h0 => ?_⟩
  obtain ⟨ad, rfl, hc⟩ := hr h0
  refine ⟨ad, rfl, fun j p hj => ?_⟩
  obtain ⟨cs, h1, h2, h3⟩ := hc j p hj
  refine ⟨cs, h1, h2, fun i u hu => ?_⟩
  have h4 := h3 i u hu
  have h5 := World.block_lt_of_cell? w _ h4
  exact cell_heap h4 (hW _ h5 h5)
theorem BAt_lt {w : World} {h : Hd} {l : List Int} (b : BAt w h l) : FF (fun W => BAt W h l) (fun k => k < w.heap.size) w := fun W hW => b.heap (fun k hk => hW k hk hk)
section
variable {ok ok' : Nat → Prop} {w w' : World} {A : Option Addr} {n c : Nat} {xs : List CellM}
theorem CAt.of (h : kC.C w A n xs) (hn : n = xs.length) (hc : n ≤ c) : CAt (fun k => k < w.heap.size) w A n c xs := by
  obtain ⟨zs, h1, h2, h3⟩ := C_open h
  exact ⟨hn, hc, zs, h1, kH_FF h2, fun z hz => ⟨(h3 z hz).k, (h3 z hz).g, BAt_lt (h3 z hz).b⟩⟩
theorem CAt.now (h : CAt ok w A n c xs) : kC.C w A n xs := by
  obtain ⟨h1, h2, zs, rfl, h3, h4⟩ := h
  exact C_shut h3.now (fun z hz => ⟨(h4 z hz).1, (h4 z hz).2.1, (h4 z hz).2.2.now⟩)
theorem CAt.step (h : CAt ok w A n c xs) (hs : Same_ ok w w') : CAt ok w' A n c xs := by
  obtain ⟨h1, h2, zs, h5, h3, h4⟩ := h
  exact ⟨h1, h2, zs, h5, h3.step hs, fun z hz => ⟨(h4 z hz).1, (h4 z hz).2.1, (h4 z hz).2.2.step hs⟩⟩
theorem CAt.keep (h : CAt ok w A n c xs) (hb : Below w.heap.size w w') : CAt ok w' A n c xs := h.step (.of_below hb)
theorem CAt.mono (h : CAt ok w A n c xs) (hk : ∀ k, ok k → ok' k) : CAt ok' w A n c xs := by
  obtain ⟨h1, h2, zs, h5, h3, h4⟩ := h
  exact ⟨h1, h2, zs, h5, h3.mono hk, fun z hz => ⟨(h4 z hz).1, (h4 z hz).2.1, (h4 z hz).2.2.mono hk⟩⟩
theorem CAt.nil (ok : Nat → Prop) (w : World) : CAt ok w none 0 0 [] := ⟨rfl, Nat.le_refl _, [], rfl, fun W _ => ⟨rfl, Nat.zero_le _, fun h => absurd h (by simp)⟩, fun z hz => by cases hz⟩
end
end Go.Proofs.YtpckachmleonlaaGreatDoor
end
