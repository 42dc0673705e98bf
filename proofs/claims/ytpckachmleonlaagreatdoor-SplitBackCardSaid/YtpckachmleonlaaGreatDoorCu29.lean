/- Words and walks for Split and Tablet: texts of these sessions, and of the kit's print, cut down to what is used (I3 H3 J3). -/
import Derived.Test.YtpckachmleonlaaGreatDoorCu27
import Derived.Test.YtpckachmleonlaaGreatDoorCu28
import Derived.Test.YtpckachmleonlaaGreatDoorCu25
section
set_option linter.unusedVariables false
set_option linter.unusedSimpArgs false
namespace Go.Proofs.YtpckachmleonlaaGreatDoor.PSplitCuts
open Go.RowKit Go.Proofs.YtpckachmleonlaaGreatDoorW.PrintWords Go.Proofs.YtpckachmleonlaaGreatDoorW.PrintMore Cp
theorem w64 {i : Int} (h0 : -1000000000 ≤ i) (h1 : i ≤ 1000000000) : wrap64 i = i := by unfold wrap64; omega
theorem bt_list (s : ByteArray) (i : Nat) (h : i < s.size) : bt s (i : Int) = ((s.data.toList.getD i 0).toNat : Int) := by
 have h' : i < s.data.toList.length := by rw [zDf]; exact h
 unfold bt
 rw [dif_pos (by simpa using h)]
 rw [List.getD_eq_getElem?_getD, List.getElem?_eq_getElem h']
 rfl
theorem drop_cons {l : List UInt8} {i : Nat} (h : i < l.length) : l.drop i = l.getD i 0 :: l.drop (i + 1) := by
 rw [List.drop_eq_getElem_cons h, List.getD_eq_getElem?_getD, List.getElem?_eq_getElem h]
 rfl
theorem text_l (a b : ByteArray) (ha : a.size ≤ 10000) (hb : b.size ≤ 10000) : ∀ (d : Nat) (k i : Nat), i ≤ a.size → i ≤ b.size → a.size - i = d → 2 * d + 2 ≤ k → bulwarkref04_Text.l0 k a b (i : Int) = some (cmpL (a.data.toList.drop i) (b.data.toList.drop i)) := by
 intro d
 induction d with
 | zero =>
  intro k i h1 h2 hd hk
  obtain ⟨k, rfl⟩ : ∃ m, k = m + 2 := ⟨k - 2, by omega⟩
  have e : a.data.toList.drop i = [] := List.drop_eq_nil_of_le (by rw [zDf]; omega)
  have hbl : (b.data.toList.drop i).length = b.size - i := by rw [List.length_drop, zDf]
  simp only [bulwarkref04_Text.l0]
  rw [if_neg (by omega)]
  simp only [bulwarkref04_Text.j1]
  rw [if_neg (by simp), e, cmpL_nil, hbl]
  by_cases hs : a.size = b.size
  ·rw [if_pos (by omega), if_pos (by omega)]
  ·rw [if_neg (by omega), if_pos (by omega), if_neg (by omega)]
 | succ d ih =>
  intro k i h1 h2 hd hk
  obtain ⟨k, rfl⟩ : ∃ m, k = m + 2 := ⟨k - 2, by omega⟩
  have ea := drop_cons (l := a.data.toList) (i := i) (by rw [zDf]; omega)
  simp only [bulwarkref04_Text.l0]
  rw [if_pos (by omega)]
  simp only [bulwarkref04_Text.j1]
  by_cases hlt : i < b.size
  ·have eb := drop_cons (l := b.data.toList) (i := i) (by rw [zDf]; omega)
   rw [if_pos (by simpa using hlt), if_pos (by omega), if_pos (by omega), if_pos (by omega), bt_list a i (by omega), bt_list b i hlt, ea, eb]
   unfold cmpL
   by_cases he : a.data.toList.getD i 0 = b.data.toList.getD i 0
   ·rw [if_pos (by rw [he]), if_pos he, w64 (by omega) (by omega)]
    exact ih k (i + 1) (by omega) (by omega) (by omega) (by omega)
   ·have hn : ¬ (((a.data.toList.getD i 0).toNat : Int) = ((b.data.toList.getD i 0).toNat : Int)) := fun h => he (UInt8.toNat_inj.1 (by omega))
    rw [if_neg hn, if_neg he]
    by_cases hl : a.data.toList.getD i 0 < b.data.toList.getD i 0
    ·have hl' : (a.data.toList.getD i 0).toNat < (b.data.toList.getD i 0).toNat := hl
     rw [if_pos (by omega), if_pos hl]
    ·have hl' : ¬ (a.data.toList.getD i 0).toNat < (b.data.toList.getD i 0).toNat := hl
     rw [if_neg (by omega), if_neg hl]
  ·have eb : b.data.toList.drop i = [] := List.drop_eq_nil_of_le (by rw [zDf]; omega)
   have hal : (a.data.toList.drop i).length = a.size - i := by rw [List.length_drop, zDf]
   rw [if_neg (by simpa using hlt), eb, cmpL_nil', hal, if_neg (by omega), if_neg (by omega), if_neg (by omega)]
theorem text_f (a b : ByteArray) (k : Nat) (ha : a.size ≤ 10000) (hb : b.size ≤ 10000) (hk : 30000 ≤ k) : bulwarkref04_Text.f k a b = some (cmpL a.data.toList b.data.toList) := by
 unfold bulwarkref04_Text.f
 have := text_l a b ha hb a.size k 0 (by omega) (by omega) (by omega) (by omega)
 simpa using this
theorem rd_list (l : List Int) (i : Nat) : rd l (i : Int) = l.getD i 0 := by unfold rd; simp
theorem same_l (a b : List Int) (hab : a.length = b.length) (ha : a.length ≤ 10000) : ∀ (d k i : Nat), i ≤ a.length → a.length - i = d → d + 1 ≤ k → bulwarkref01_Same.l0 k a b (i : Int) = some (decide (a.drop i = b.drop i)) := by
 intro d
 induction d with
 | zero =>
  intro k i h1 hd hk
  obtain ⟨k, rfl⟩ : ∃ m, k = m + 1 := ⟨k - 1, by omega⟩
  simp only [bulwarkref01_Same.l0]
  rw [if_neg (by omega), List.drop_eq_nil_of_le (by omega), List.drop_eq_nil_of_le (by omega)]
  simp
 | succ d ih =>
  intro k i h1 hd hk
  obtain ⟨k, rfl⟩ : ∃ m, k = m + 1 := ⟨k - 1, by omega⟩
  simp only [bulwarkref01_Same.l0]
  have h3 : i < a.length := by omega
  have h4 : i < b.length := by omega
  have e : (a.drop i = b.drop i) ↔ a[i] = b[i] ∧ a.drop (i + 1) = b.drop (i + 1) := by
   conv => lhs; rw [List.drop_eq_getElem_cons h3, List.drop_eq_getElem_cons h4]
   exact List.cons_eq_cons
  rw [if_pos (by omega), if_pos (by omega), if_pos (by omega), rd_list, rd_list, List.getD_eq_getElem?_getD, List.getD_eq_getElem?_getD, List.getElem?_eq_getElem h3, List.getElem?_eq_getElem h4]
  simp only [Option.getD_some]
  by_cases he : a[i] = b[i]
  ·rw [if_pos he, w64 (by omega) (by omega), show ((i : Int) + 1) = ((i + 1 : Nat) : Int) by omega, ih k (i + 1) (by omega) (by omega) (by omega)]
   congr 1
   rw [decide_eq_decide, e]
   exact ⟨fun h => ⟨he, h⟩, fun h => h.2⟩
  ·rw [if_neg he]
   congr 1
   rw [eq_comm, decide_eq_false_iff_not, e]
   exact fun h => he h.1
theorem refCmp_f (r f q : ByteArray) (t : Int) (r' f' q' : ByteArray) (t' : Int) (k : Nat) (hk : 30000 ≤ k) (h1 : r.size ≤ 10000) (h2 : f.size ≤ 10000) (h3 : q.size ≤ 10000) (h4 : r'.size ≤ 10000) (h5 : f'.size ≤ 10000) (h6 : q'.size ≤ 10000) :
  bulwarkref04_Cmp.f k r f q t r' f' q' t' = some (zGc r f q t r' f' q' t') := by
 unfold bulwarkref04_Cmp.f zGc
 rw [text_f _ _ k h1 h4 hk, text_f _ _ k h2 h5 hk, text_f _ _ k h3 h6 hk]
 simp only [Option.bind_some]
 split
 ·split
  ·split
   ·unfold cmpU
    rcases Int.lt_trichotomy t' t with h | h | h
    ·rw [if_neg (by omega), if_pos (by omega), if_pos h]
    ·rw [if_pos h.symm, if_neg (by omega), if_neg (by omega)]
    ·rw [if_neg (by omega), if_neg (by omega), if_neg (by omega), if_pos (by omega)]
   ·rfl
  ·rfl
 ·rfl
theorem rsame_f (a b : List Int) (k : Nat) (ha : a.length ≤ 10000) (hk : 20000 ≤ k) : bulwarkref01_Same.f k a b = some (decide (a = b)) := by
 unfold bulwarkref01_Same.f
 by_cases h : a.length = b.length
 ·rw [if_pos (by omega)]
  have := same_l a b h ha a.length k 0 (by omega) (by omega) (by omega)
  simp only [List.drop_zero] at this
  rw [show ((0 : Nat) : Int) = 0 from rfl] at this
  rw [this]
 ·rw [if_neg (by omega)]
  have : ¬ a = b := fun e => h (by rw [e])
  simp [this]
end Go.Proofs.YtpckachmleonlaaGreatDoor.PSplitCuts
namespace Go.Proofs.YtpckachmleonlaaGreatDoor
open Go.RowKit Go.Proofs.YtpckachmleonlaaGreatDoorW.PrintWords
structure Sh (k : KeyM) : Prop where
 a : k.f0.size ≤ 10000
 b : k.f1.size ≤ 10000
 c : k.f2.size ≤ 10000
theorem rcmp_any {a b : KeyM} (ha : Sh a) (hb : Sh b) (w : World) : Calls Tryz.prog 43 #[keyV a, keyV b] w fun e w' => e = .returned (.int .i64 (cmpK a b)) ∧ Below w.heap.size w w' :=
 PSplitCuts.bulwarkref04_Cmp.calls 100000 _ _ _ _ _ _ _ _ _ w (PSplitCuts.refCmp_f _ _ _ _ _ _ _ _ _ (by omega) ha.a ha.b ha.c hb.a hb.b hb.c)
theorem rcol_f (a b : KeyM) : PSplitCuts.bulwarkref04_Column.f a.f0 a.f1 a.f2 a.f3 b.f0 b.f1 b.f2 b.f3 = some (colB a b) := by
 obtain ⟨r, f, q, t⟩ := a
 obtain ⟨r', f', q', t'⟩ := b
 unfold PSplitCuts.bulwarkref04_Column.f colB
 simp only [ba_eq]
 split
 ·rename_i h
  split
  ·rename_i h2
   rw [Option.some.injEq]
   by_cases h3 : q = q'
   ·subst h3
    simp [h, h2]
   ·have h4 : ¬ q.toList = q'.toList := fun e => h3 (ba_eq.1 e)
    simp [h3, h4]
  ·rename_i h2
   simp [h2]
 ·rename_i h
  simp [h]
theorem rcol_any (a b : KeyM) (w : World) : Calls Tryz.prog 44 #[keyV a, keyV b] w fun e w' => e = .returned (.bool (colB a b)) ∧ Below w.heap.size w w' :=
 PSplitCuts.bulwarkref04_Column.calls _ _ _ _ _ _ _ _ _ w (rcol_f a b)
theorem rright_any (a : KeyM) (w : World) : Calls Tryz.prog 69 #[keyV a] w fun e w' => e = .returned (.int .i64 (Cp.zGa a.f0 a.f1 a.f2)) ∧ Below w.heap.size w w' := by
 refine PSplitCuts.bulwarkref04_Right.calls _ _ _ _ _ w ?_
 obtain ⟨r, f, q, t⟩ := a
 unfold PSplitCuts.bulwarkref04_Right.f Cp.zGa Cp.okB
 simp only
 by_cases h1 : (r.size : Int) < 1
 ·rw [if_pos h1, decide_eq_false (by omega)]; rfl
 rw [if_neg h1]
 by_cases h2 : (r.size : Int) > 32
 ·rw [if_pos h2, decide_eq_false (by omega)]; rfl
 rw [if_neg h2]
 by_cases h3 : (f.size : Int) < 1
 ·rw [if_pos h3, decide_eq_false (by omega)]; rfl
 rw [if_neg h3]
 by_cases h4 : (f.size : Int) > 32
 ·rw [if_pos h4, decide_eq_false (by omega)]; rfl
 rw [if_neg h4]
 by_cases h5 : (q.size : Int) > 32
 ·rw [if_pos h5, decide_eq_false (by omega)]; rfl
 rw [if_neg h5, decide_eq_true (by omega)]; rfl
theorem empty_size {b : ByteArray} : b.toList = ([] : List UInt8) ↔ b.size = 0 := by
 rw [← Cp.toList_size]
 exact List.length_eq_zero_iff.symm
theorem rr10_any (a b : ByteArray) (ha : a.size ≤ 10000) (hb : b.size ≤ 10000) (w : World) : Calls Tryz.prog 45 #[.string a, .string b] w fun e w' => e = .returned (.bool (zFf a b)) ∧ Below w.heap.size w w' := by
 refine (PSplitCuts.bulwarkref10_Right.calls 100000 _ _ (zFf a b) w ?_).mono fun e w' h => ⟨h.1, h.2.below⟩
 unfold PSplitCuts.bulwarkref10_Right.f zFf
 rw [PSplitCuts.text_f a b 100000 ha hb (by omega)]
 by_cases h1 : (a.size : Int) ≤ 32
 ·rw [if_pos h1, decide_eq_true (show a.size ≤ 32 by omega)]
  by_cases h2 : (b.size : Int) ≤ 32
  ·rw [if_pos h2, decide_eq_true (show b.size ≤ 32 by omega)]
   by_cases h3 : b.size = 0
   ·rw [if_pos (empty_size.2 h3), decide_eq_true h3]; rfl
   ·rw [if_neg (fun e => h3 (empty_size.1 e)), decide_eq_false h3]; rfl
  ·rw [if_neg h2, decide_eq_false (show ¬ b.size ≤ 32 by omega)]; simp
 ·rw [if_neg h1, decide_eq_false (show ¬ a.size ≤ 32 by omega)]; simp
theorem rins_any (a b r : ByteArray) (ha : a.size ≤ 10000) (hb : b.size ≤ 10000) (hr : r.size ≤ 10000) (A : Option Addr) (c : Nat) (xs : List CellM) (w : World) (hC : kC.C w A xs.length xs) (hc : xs.length ≤ c) : Calls Tryz.prog 56 #[.agg #[.string a, .string b, .slice A xs.length c], .string r] w fun e w' => e = .returned (.bool (insT a b r)) ∧ Below w.heap.size w w' := by
 refine PSplitCuts.bulwarkref10_Tablet_Inside.calls 100000 _ _ _ _ xs _ (insT a b r) w hC hc ?_
 unfold PSplitCuts.bulwarkref10_Tablet_Inside.f
 rw [PSplitCuts.text_f r a 100000 hr ha (by omega), PSplitCuts.text_f r b 100000 hr hb (by omega), zGd]
 simp only [Option.bind_some]
 unfold ltS
 by_cases h1 : Cp.cmpL r.data.toList a.data.toList < 0
 ·rw [if_neg (by omega), decide_eq_true h1]; rfl
 ·rw [if_pos (by omega), decide_eq_false h1]
  by_cases h3 : b.size = 0
  ·rw [if_pos (empty_size.2 h3), decide_eq_true h3]; rfl
  ·rw [if_neg (fun e => h3 (empty_size.1 e)), decide_eq_false h3]; rfl
theorem rsame_any (A0 : Option Addr) (c0 : Nat) (l0 : List Int) (A1 : Option Addr) (c1 : Nat) (l1 : List Int) (w : World) (hr0 : kB.C w A0 l0.length l0) (hc0 : l0.length ≤ c0) (hr1 : kB.C w A1 l1.length l1) (hc1 : l1.length ≤ c1) (hl : l0.length ≤ 10000) :
  Calls Tryz.prog 25 #[.slice A0 l0.length c0, .slice A1 l1.length c1] w fun e w' => e = .returned (.bool (decide (l0 = l1))) ∧ Below w.heap.size w w' :=
 (PSplitCuts.bulwarkref01_Same.calls 100000 A0 c0 l0 A1 c1 l1 _ w hr0 hc0 hr1 hc1 (PSplitCuts.rsame_f _ _ _ hl (by omega))).mono fun e w' h => ⟨h.1, h.2.below⟩
end Go.Proofs.YtpckachmleonlaaGreatDoor
end
section
set_option linter.unusedVariables false
set_option linter.unusedSimpArgs false
namespace Go.Proofs.YtpckachmleonlaaGreatDoor
open Go.RowKit Go.Proofs.YtpckachmleonlaaGreatDoorW.PrintWords
def kFlat {α : Type} (n : Nat) (enc : α → List Value) (hl : ∀ x, (enc x).length = n) (h1 : ∀ x, ∀ u ∈ enc x, u.oneCell' = true) : Kd α where
  sz := n
  E := []
  K := fun _ x cs => cs = enc x
  M := fun _ _ _ x cs => cs = enc x
  K_len := fun h => by rw [h]; exact hl _
  K_one := fun h u hu => by
    rw [h] at hu
    exact h1 _ u hu
  K_below := fun _ h => h
  K_of_M := fun h => h
  M_mono := fun _ h => h
  M_bound := fun h => h
  M_move := fun _ h => h
  M_lower := fun _ h => h
structure Ch where
  k : KeyM
  h : Hd
  g : Bool
def chV (x : Ch) : List Value := [.string x.k.f0, .string x.k.f1, .string x.k.f2, .int .u64 x.k.f3, .slice x.h.A x.h.n x.h.c, .bool x.g]
def kH : Kd Ch := kFlat 6 chV (fun _ => rfl) (fun x u hu => by
  unfold chV at hu
  simp only [List.mem_cons, List.not_mem_nil, or_false] at hu
  rcases hu with rfl | rfl | rfl | rfl | rfl | rfl <;> rfl)
structure ChOk (w : World) (z : Ch × CellM) : Prop where
  k : z.1.k = z.2.f0
  g : z.1.g = z.2.f2
  b : BAt w z.1.h z.2.f1
theorem ChOk.keep {w w' : World} {z : Ch × CellM} (h : ChOk w z) (hb : Below w.heap.size w w') : ChOk w' z := ⟨h.k, h.g, h.b.keep hb⟩
theorem kC_K {w : World} {x : CellM} {cs : List Value} (h : kC.K w x cs) : ∃ y : Ch, ChOk w (y, x) ∧ cs = chV y := by
  obtain ⟨⟨r, f, q, t⟩, v, g⟩ := x
  obtain ⟨c0, c1, rfl, h0, c2, c3, rfl, ⟨A, c, rfl, h2, h3⟩, h4⟩ := h
  obtain ⟨d0, d1, rfl, e0, d2, d3, rfl, e1, d4, d5, rfl, e2, e3⟩ := h0
  simp only at e0 e1 e2 e3 h4
  rw [show d0 = [.string r] from e0, show d2 = [.string f] from e1, show d4 = [.string q] from e2, show d5 = [.int .u64 t] from e3, show c3 = [.bool g] from h4]
  exact ⟨⟨⟨r, f, q, t⟩, ⟨A, v.length, c⟩, g⟩, ⟨rfl, rfl, ⟨rfl, h2, h3⟩⟩, rfl⟩
theorem kC_of {w : World} {x : CellM} {y : Ch} (h : ChOk w (y, x)) : kC.K w x (chV y) := by
  obtain ⟨⟨r, f, q, t⟩, v, g⟩ := x
  obtain ⟨k, hh, g'⟩ := y
  obtain ⟨h1, h2, h3⟩ := h
  simp only at h1 h2 h3
  subst h1 h2
  obtain ⟨A, n, c⟩ := hh
  have hn := h3.n
  simp only at hn
  subst hn
  exact ⟨[.string r, .string f, .string q, .int .u64 t], [.slice A v.length c, .bool g'], rfl, ⟨[.string r], _, rfl, rfl, [.string f], _, rfl, rfl, [.string q], _, rfl, rfl, rfl⟩, [.slice A v.length c], _, rfl, ⟨A, c, rfl, h3.c, h3.row⟩, rfl⟩
theorem C_open {w : World} {A : Option Addr} {n : Nat} {xs : List CellM} (h : kC.C w A n xs) : ∃ zs : List (Ch × CellM), zs.map (·.2) = xs ∧ kH.C w A n (zs.map (·.1)) ∧ ∀ z ∈ zs, ChOk w z := by
  obtain ⟨hn, hm, hr⟩ := h
  have hex : ∀ ad : Addr, (∀ j p, xs[j]? = some p → ∃ c, c.length = kC.sz ∧ kC.K w p c ∧ ∀ i u, c[i]? = some u → w.cell? (ad.add (j * kC.sz + i)) = some u) →
      ∀ (ys : List CellM) (o : Nat), (∀ j p, ys[j]? = some p → xs[o + j]? = some p) → ∃ zs : List (Ch × CellM), zs.map (·.2) = ys ∧ (∀ j z, zs[j]? = some z → ∀ i u, (chV z.1)[i]? = some u → w.cell? (ad.add ((o + j) * kC.sz + i)) = some u) ∧ ∀ z ∈ zs, ChOk w z := by
    intro ad had ys
    induction ys with
    | nil => exact fun o _ => ⟨[], rfl, fun j z hj => by simp at hj, fun z hz => by cases hz⟩
    | cons y ys ih =>
      intro o ho
      obtain ⟨zs, e1, e2, e3⟩ := ih (o + 1) (fun j p hj => by have := ho (j + 1) p (by simpa using hj); rw [show o + 1 + j = o + (j + 1) by omega]; exact this)
      obtain ⟨c, h1, h2, h3⟩ := had o y (ho 0 y rfl)
      obtain ⟨x, h4, rfl⟩ := kC_K h2
      refine ⟨(x, y) :: zs, by rw [List.map_cons, e1], fun j z hj => ?_, fun z hz => ?_⟩
      · cases j with
        | zero =>
          obtain rfl : (x, y) = z := by simpa using hj
          simpa using h3
        | succ j =>
          have := e2 j z (by simpa using hj)
          rw [show o + (j + 1) = o + 1 + j by omega]
          exact this
      · rcases List.mem_cons.1 hz with rfl | hz
        · exact h4
        · exact e3 z hz
  rcases Nat.eq_zero_or_pos n with h0 | h0
  · have : xs = [] := List.length_eq_zero_iff.1 (by omega)
    subst this
    exact ⟨[], rfl, ⟨hn, hm, fun h => by omega⟩, fun z hz => by cases hz⟩
  · obtain ⟨ad, rfl, hc⟩ := hr h0
    obtain ⟨zs, e1, e2, e3⟩ := hex ad hc xs 0 (fun j p hj => by simpa using hj)
    refine ⟨zs, e1, ⟨by rw [List.length_map, ← List.length_map (f := (·.2)), e1]; exact hn, hm, fun _ => ⟨ad, rfl, fun j p hj => ?_⟩⟩, e3⟩
    rw [List.getElem?_map, Option.map_eq_some_iff] at hj
    obtain ⟨z, hz, rfl⟩ := hj
    refine ⟨chV z.1, rfl, rfl, fun i u hu => ?_⟩
    have := e2 j z hz i u hu
    rw [Nat.zero_add] at this
    exact this
theorem C_shut {w : World} {A : Option Addr} {n : Nat} {zs : List (Ch × CellM)} (h : kH.C w A n (zs.map (·.1))) (hz : ∀ z ∈ zs, ChOk w z) : kC.C w A n (zs.map (·.2)) := by
  obtain ⟨hn, hm, hr⟩ := h
  refine ⟨by rw [List.length_map] at hn ⊢; exact hn, hm, fun h0 => ?_⟩
  obtain ⟨ad, rfl, hc⟩ := hr h0
  refine ⟨ad, rfl, fun j p hj => ?_⟩
  rw [List.getElem?_map, Option.map_eq_some_iff] at hj
  obtain ⟨z, hzj, rfl⟩ := hj
  obtain ⟨c, h1, h2, h3⟩ := hc j z.1 (by rw [List.getElem?_map, hzj]; rfl)
  rw [show c = chV z.1 from h2] at h3
  exact ⟨chV z.1, rfl, kC_of (hz z (List.mem_of_getElem? hzj)), h3⟩
theorem at_kH {w : World} {A : Option Addr} {n : Nat} {hs : List Ch} (h : kH.C w A n hs) (k : Nat) (h1 : k < n) : ∃ ad x, A = some ad ∧ hs[k]? = some x ∧ w.cell? (ad.add (k * 6)) = some (.string x.k.f0) ∧ w.cell? ⟨(ad.add (k * 6)).block, (ad.add (k * 6)).off + 1, none⟩ = some (.string x.k.f1) ∧ w.cell? ⟨(ad.add (k * 6)).block, (ad.add (k * 6)).off + 2, none⟩ = some (.string x.k.f2) ∧ w.cell? ⟨(ad.add (k * 6)).block, (ad.add (k * 6)).off + 3, none⟩ = some (.int .u64 x.k.f3) ∧ w.cell? ⟨(ad.add (k * 6)).block, (ad.add (k * 6)).off + 4, none⟩ = some (.slice x.h.A x.h.n x.h.c) ∧ w.cell? ⟨(ad.add (k * 6)).block, (ad.add (k * 6)).off + 5, none⟩ = some (.bool x.g) := by
  obtain ⟨hn, hm, hr⟩ := h
  obtain ⟨ad, rfl, hc⟩ := hr (by omega)
  obtain ⟨x, hx⟩ : ∃ x, hs[k]? = some x := ⟨hs[k]'(by omega), List.getElem?_eq_getElem (by omega)⟩
  obtain ⟨c, h2, h3, h4⟩ := hc k x hx
  rw [show c = chV x from h3] at h4
  have hc2 : ∀ i u, (chV x)[i]? = some u → w.cell? (ad.add (k * 6 + i)) = some u := h4
  exact ⟨ad, x, rfl, hx, hc2 0 _ rfl, by rw [← zFa _ _ 1 (by omega)]; exact hc2 1 _ rfl, by rw [← zFa _ _ 2 (by omega)]; exact hc2 2 _ rfl, by rw [← zFa _ _ 3 (by omega)]; exact hc2 3 _ rfl, by rw [← zFa _ _ 4 (by omega)]; exact hc2 4 _ rfl, by rw [← zFa _ _ 5 (by omega)]; exact hc2 5 _ rfl⟩
end Go.Proofs.YtpckachmleonlaaGreatDoor
end
section
set_option linter.unusedVariables false
set_option linter.unusedSimpArgs false
namespace Go.Proofs.YtpckachmleonlaaGreatDoor
open Go.RowKit Go.Proofs.YtpckachmleonlaaGreatDoorW.PrintWords
theorem filter_take_succ {α : Type} (p : α → Bool) (l : List α) (k : Nat) (x : α) (h : l[k]? = some x) : (l.take (k + 1)).filter p = (l.take k).filter p ++ if p x then [x] else [] := by
  obtain ⟨hk, e⟩ := List.getElem?_eq_some_iff.1 h
  rw [List.take_succ_eq_append_getElem hk, List.filter_append, e]
  congr 1
  by_cases hp : p x = true
  · simp [hp]
  · simp [hp]
theorem filter_snd (p : CellM → Bool) (zs : List (Ch × CellM)) : (zs.filter fun z => p z.2).map (·.2) = (zs.map (·.2)).filter p := by
  rw [List.filter_map]
  rfl
theorem R_shut {w w' : World} {A : Option Addr} {n c base : Nat} {ok : Nat → Prop} {zs : List (Ch × CellM)} {ys : List CellM} (h : Kd.R kH 49 w' base ok (.slice A n c) (zs.map (·.1))) (hz : ∀ z ∈ zs, ChOk w z) (hb : Below w.heap.size w w') (e : zs.map (·.2) = ys) : n = ys.length ∧ ys.length ≤ c ∧ kC.C w' A ys.length ys := by
  obtain ⟨h1, h2, h3⟩ := Kd.zFc h
  subst e
  rw [List.length_map] at h1 ⊢
  rw [List.length_map] at h3
  refine ⟨h1, by omega, ?_⟩
  exact C_shut h3 (fun z hz' => (hz z hz').keep hb)
set_option maxHeartbeats 4000000 in
set_option maxRecDepth 100000 in
theorem rcolumn_any (xs : List CellM) (A : Option Addr) (c : Nat) (w : World) (hC : kC.C w A xs.length xs) (hl : xs.length ≤ 1000) (key : KeyM) :
    Calls Tryz.prog 80 #[.slice A xs.length c, .agg #[.string key.f0, .string key.f1, .string key.f2, .int .u64 key.f3]] w fun e w' => ∃ A' c', e = .returned (.slice A' (colC key xs).length c') ∧ (colC key xs).length ≤ c' ∧ kC.C w' A' (colC key xs).length (colC key xs) ∧ Below w.heap.size w w' := by
  obtain ⟨zs, rfl, hH, hz⟩ := C_open hC
  rw [List.length_map] at hH hl ⊢
  obtain ⟨n, hn⟩ : ∃ n, zs.length = n := ⟨_, rfl⟩
  have HZ := zA.mk (And.intro hz hn)
  have HH : zA (kH.C w A n (zs.map (·.1))) := ⟨hn ▸ hH⟩
  have HRES : zA (∀ (ys : List (Ch × CellM)) (A' : Option Addr) (m c' : Nat) (ok : Nat → Prop) (w' : World), ys = zs.filter (fun z => colB z.2.f0 key) → Kd.R kH 49 w' w.heap.size ok (.slice A' m c') (ys.map (·.1)) → Below w.heap.size w w' → ∃ A'' c'', Ending.returned (.slice A' m c') = .returned (.slice A'' (colC key (zs.map (·.2))).length c'') ∧ (colC key (zs.map (·.2))).length ≤ c'' ∧ kC.C w' A'' (colC key (zs.map (·.2))).length (colC key (zs.map (·.2))) ∧ Below w.heap.size w w') := ⟨fun ys A' m c' ok w' e hr hb => by
    have h9 := R_shut hr (fun z hz' => hz z (by rw [e] at hz'; exact (List.mem_filter.1 hz').1)) hb (show ys.map (·.2) = colC key (zs.map (·.2)) by rw [e]; exact filter_snd (fun x => colB x.f0 key) zs)
    obtain ⟨rfl, h2, h3⟩ := h9
    exact ⟨A', c', rfl, h2, h3, hb⟩⟩
  obtain ⟨Q, hQ⟩ : ∃ Q : Ending → World → Prop, Q = fun e w' => ∃ A' c', e = .returned (.slice A' (colC key (zs.map (·.2))).length c') ∧ (colC key (zs.map (·.2))).length ≤ c' ∧ kC.C w' A' (colC key (zs.map (·.2))).length (colC key (zs.map (·.2))) ∧ Below w.heap.size w w' := ⟨_, rfl⟩
  have HQ := zA.mk hQ
  rw [← hQ, hn]
  rw [hn] at hl
  clear hC hH hz hQ hn
  go_enter Tryz.func80, Tryz.ntmps80
  go_upto_region 3 with fail
  have HB1 : zA (Below w.heap.size w (w.alloc (.cells #[.string key.f0, .string key.f1, .string key.f2, .int .u64 key.f3] 46))) := ⟨zAa (Below.refl _ _) _⟩
  have HG1 : zA ((w.alloc (.cells #[.string key.f0, .string key.f1, .string key.f2, .int .u64 key.f3] 46)).heap[w.heap.size]? = some (.cells #[.string key.f0, .string key.f1, .string key.f2, .int .u64 key.f3] 46 (0, 0))) := ⟨heap_alloc_new _ _⟩
  go_loopg [5, 6] n (fun gg v5 v6 wr => ∃ (k : Nat) (ys : List (Ch × CellM)), k ≤ n ∧ n - k ≤ gg ∧ v6 = .int .i64 k ∧ zA (ys = (zs.take k).filter (fun z => colB z.2.f0 key)) ∧ zA (Kd.R kH 49 wr w.heap.size (fun _ => True) v5 (ys.map (·.1))) ∧ zA (Below w.heap.size w wr) ∧ zA (wr.heap[w.heap.size]? = some (.cells #[.string key.f0, .string key.f1, .string key.f2, .int .u64 key.f3] 46 (0, 0))))
  case atStart => exact ⟨0, [], Nat.zero_le _, by omega, rfl, ⟨rfl⟩, ⟨Kd.R_nil _ _ _ _ _⟩, HB1, HG1⟩
  case round =>
    obtain ⟨k, ys, hk, hg, rfl, HY, HR, HB, HG⟩ := hrel
    by_cases hlt : k < n
    · have hltz : (k : Int) < (n : Int) := by omega
      obtain ⟨ad, x, rfl, hx, q0, q1, q2, q3, q4, q5⟩ := at_kH (Kd.zBa HH.out HB.out) k hlt
      rw [List.getElem?_map, Option.map_eq_some_iff] at hx
      obtain ⟨z, hzk, rfl⟩ := hx
      have HZK := zA.mk hzk
      have hkk : z.1.k = z.2.f0 := (HZ.out.1 z (List.mem_of_getElem? hzk)).k
      have c0 := (zAb HG.out 0).trans (rfl : _ = some (Value.string key.f0))
      have c1 := (zAb HG.out 1).trans (rfl : _ = some (Value.string key.f1))
      have c2 := (zAb HG.out 2).trans (rfl : _ = some (Value.string key.f2))
      have c3 := (zAb HG.out 3).trans (rfl : _ = some (Value.int .u64 key.f3))
      have hlb := zAi HG.out
      have HF := zA.mk (filter_take_succ (fun z => colB z.2.f0 key) zs k z hzk)
      obtain ⟨b, hb⟩ : ∃ b, colB z.2.f0 key = b := ⟨_, rfl⟩
      have HBB := zA.mk hb
      have HCALL : zA (∀ i : Bl wr, Calls Tryz.prog 44 #[.agg #[.string z.1.k.f0, .string z.1.k.f1, .string z.1.k.f2, .int .u64 z.1.k.f3], .agg #[.string key.f0, .string key.f1, .string key.f2, .int .u64 key.f3]] i.1 fun e w'' => e = .returned (.bool b) ∧ ∃ j : Bl wr, w'' = j.1) := ⟨fun i => bl_call (i := i) (by
        have h9 := rcol_any z.1.k key i.1
        rw [hkk, hb] at h9
        rw [hkk]
        exact h9)⟩
      clear hzk hkk hb
      go_upto_region 5 with fail
      have C0 := fun i => zDc c0 i
      have C1 := fun i => zDc c1 i
      have C2 := fun i => zDc c2 i
      have C3 := fun i => zDc c3 i
      have D0 := fun i => zDc q0 i
      have D1 := fun i => zDc q1 i
      have D2 := fun i => zDc q2 i
      have D3 := fun i => zDc q3 i
      refine wp_region_bl (by kernel_rfl) (by kernel_rfl) ?_
      repeat (go_big_quiet_step (exact HCALL.out _))
      refine wpQuiet_nil ?_
      intro w3 hw3
      obtain ⟨i3, e3⟩ := hw3
      have hb3 := i3.2
      rw [← e3] at hb3
      clear e3 i3 C0 C1 C2 C3 D0 D1 D2 D3 HCALL c0 c1 c2 c3
      have HB3 : zA (Below w.heap.size w w3) := ⟨HB.out.trans (hb3.mono HB.out.size)⟩
      have HR3 := zA.mk (Kd.zEk HR.out hb3)
      have HG3 := zA.mk (zAe HG.out hb3)
      have p0 := (hb3.cell (World.block_lt_of_cell? wr _ q0)).trans q0
      have p1 := (hb3.cell (World.block_lt_of_cell? wr _ q1)).trans q1
      have p2 := (hb3.cell (World.block_lt_of_cell? wr _ q2)).trans q2
      have p3 := (hb3.cell (World.block_lt_of_cell? wr _ q3)).trans q3
      have p4 := (hb3.cell (World.block_lt_of_cell? wr _ q4)).trans q4
      have p5 := (hb3.cell (World.block_lt_of_cell? wr _ q5)).trans q5
      obtain ⟨A5, c5, e5⟩ := Kd.zAk HR.out
      subst e5
      have HL5 : zA ((ys.map (·.1)).length ≤ 1000) := ⟨by
        rw [List.length_map, HY.out]
        exact Nat.le_trans (List.length_filter_le _ _) (by rw [List.length_take, HZ.out.2]; omega)⟩
      obtain ⟨m5, hm5⟩ : ∃ m, (ys.map (·.1)).length = m := ⟨_, rfl⟩
      have HM5 := zA.mk hm5
      rw [hm5] at HR3 ⊢
      clear hb3 q0 q1 q2 q3 q4 q5 HR HG HB hm5 hlb
      cases b
      case false =>
        go_wp2_with fail
        go_roundg (n - (k + 1))
        case measure => omega
        case rel => exact ⟨k + 1, ys, by omega, by omega, by go_num, ⟨by rw [HF.out, HBB.out, ← HY.out]; simp⟩, HR3, HB3, HG3⟩
      case true =>
        go_wp2_with (at_builtin; refine Kd.zEd kH (w0 := w) w.heap.size rfl (.tmp 20) (.tmp 25) 22 49 zDe 88 rfl Tryz.underlying22 zEi rfl (by decide) (by omega) (.slice A5 m5 c5) (ys.map (·.1)) z.1 [.string z.1.k.f0, .string z.1.k.f1, .string z.1.k.f2, .int .u64 z.1.k.f3, .slice z.1.h.A z.1.h.n z.1.h.c, .bool z.1.g] (fun _ => True) (fun _ => False) rfl rfl rfl (fun _ hk => hk.elim) (fun _ _ => trivial) HR3.out HB3.out HB3.out.size (by have := HL5.out; omega) ?_; intro v6 W6 ho hb6 hg6 hat; have HO6 := zA.mk ho; have HB6 := zA.mk hb6; have HG6 := zA.mk (zCg HG3.out hg6 (Kd.R_ne HR3.out HG3.out (by decide))); clear ho hb6 hg6 hat)
        go_roundg (n - (k + 1))
        case measure => omega
        case rel => exact ⟨k + 1, ys ++ [z], by omega, by omega, by go_num, ⟨by rw [HF.out, HBB.out, ← HY.out]; simp⟩, ⟨by rw [List.map_append]; exact HO6.out⟩, HB6, HG6⟩
    · have hltz : ¬ (k : Int) < (n : Int) := by omega
      have : k = n := by omega
      subst this
      obtain ⟨A5, c5, e5⟩ := Kd.zAk HR.out
      subst e5
      have hres := HRES.out ys A5 _ c5 _ wr (by rw [HY.out, List.take_of_length_le (by rw [HZ.out.2]; exact Nat.le_refl _)]) HR.out HB.out
      obtain ⟨m5, hm5⟩ : ∃ m, (ys.map (·.1)).length = m := ⟨_, rfl⟩
      rw [hm5] at hres ⊢
      have HR9 := zA.mk hres
      clear hres hm5
      go_wp2_with fail
      rw [HQ.out]
      exact HR9.out
end Go.Proofs.YtpckachmleonlaaGreatDoor
end
