/- Words and walks for Split and Tablet: texts of these sessions, and of the kit's print, cut down to what is used (P3). -/
import Derived.Test.YtpckachmleonlaaGreatDoorCu32
section
set_option linter.unusedVariables false
set_option linter.unusedSimpArgs false
namespace Go.Proofs.YtpckachmleonlaaGreatDoor
open Go.RowKit Go.Proofs.YtpckachmleonlaaGreatDoorW.PrintWords
def ROfPost (okA : Nat → Prop) (a b : ByteArray) (l : List CellM) (w : World) (e : Ending) (w' : World) : Prop :=
 ∃ (a' b' : ByteArray) (A' : Option Addr) (n' c' : Nat), e = .returned (.tuple #[.agg #[.string a', .string b', .slice A' n' c'], .int .i64 (ofK a b l)]) ∧ (ofK a b l = 0 → a' = a ∧ b' = b ∧ CAt (fun j => okA j ∨ w.heap.size < j) w' A' n' c' (zDi l)) ∧ Below w.heap.size w w'
theorem rofPost_no {okA : Nat → Prop} {a b : ByteArray} {l : List CellM} {w w' : World} {i : Int} (h : ofK a b l = i) (hi : i ≠ 0) (hb : Below w.heap.size w w') : ROfPost okA a b l w (.returned (.tuple #[.agg #[.string ⟨#[]⟩, .string ⟨#[]⟩, .slice none 0 0], .int .i64 i])) w' :=
 ⟨⟨#[]⟩, ⟨#[]⟩, none, 0, 0, by rw [h], fun e => absurd (h.symm.trans e) hi, hb⟩
def okQ (okA : Nat → Prop) (g : Nat) (j : Nat) : Prop := okA j ∨ g < j
theorem CAt.bytes {ok : Nat → Prop} {w : World} {ad : Addr} {n c k lx c4 : Nat} {A4 : Option Addr} {l : List CellM} {x : CellM} (h : CAt ok w (some ad) n c l) (hx : l[k]? = some x) (hp : w.cell? ⟨(ad.add (k * 6)).block, (ad.add (k * 6)).off + 4, none⟩ = some (.slice A4 lx c4)) : FF (fun W => BAt W ⟨A4, lx, c4⟩ x.f1) ok w := by
 obtain ⟨h1, h2, zs, rfl, h3, h4⟩ := h
 rw [List.getElem?_map, Option.map_eq_some_iff] at hx
 obtain ⟨z, hz, rfl⟩ := hx
 have hk : k < n := by
  have := (List.getElem?_eq_some_iff.1 hz).1
  rw [h1, List.length_map]
  exact this
 obtain ⟨ad', y, e, hy, q0, q1, q2, q3, q4, q5⟩ := at_kH h3.now k hk
 cases e
 rw [List.getElem?_map, hz] at hy
 cases hy
 rw [q4] at hp
 injection hp with hp
 injection hp with e1 e2 e3
 have := (h4 z (List.mem_of_getElem? hz)).2.2
 rw [← e1, ← e2, ← e3]
 exact this
theorem any_of_get {l : List CellM} {p : CellM → Bool} (h : ∀ j : Nat, ∀ y, j < l.length → l[j]? = some y → p y = false) : l.any p = false := any_false fun x hx => by
 obtain ⟨j, hj⟩ := List.getElem?_of_mem hx
 exact h j x (List.getElem?_eq_some_iff.1 hj).1 hj
theorem any_at {l : List CellM} {p : CellM → Bool} {j : Nat} {y : CellM} (h : l[j]? = some y) (hp : p y = true) : l.any p = true := List.any_eq_true.2 ⟨y, List.mem_of_getElem? h, hp⟩
theorem zEc {w : World} {g t : Nat} {a0 b0 c0 : Value} (h : w.heap[g]? = some (.cells #[a0, b0, c0] t (0, 0))) (a b c : Value) : (((w.setCell ⟨g, 0, none⟩ a).setCell ⟨g, 1, none⟩ b).setCell ⟨g, 2, none⟩ c).heap[g]? = some (.cells #[a, b, c] t (0, 0)) :=
 (zCf ((zCf ((zCf h 0 a).trans rfl) 1 b).trans rfl) 2 c).trans rfl
theorem zDb {w w1 : World} {g base : Nat} (h : Below base w w1) (hg : base ≤ g) (a b c : Value) : Below base w (((w1.setCell ⟨g, 0, none⟩ a).setCell ⟨g, 1, none⟩ b).setCell ⟨g, 2, none⟩ c) := ((h.setCell hg _).setCell hg _).setCell hg _
theorem snoc_get {l : List CellM} {p : CellM → Bool} {k : Nat} {x : CellM} (h : ∀ j : Nat, ∀ y, j < k → l[j]? = some y → p y = false) (hx : l[k]? = some x) (hp : p x = false) : ∀ j : Nat, ∀ y, j < k + 1 → l[j]? = some y → p y = false := fun j y hj hy => by
 rcases Nat.lt_or_ge j k with h9 | h9
 ·exact h j y h9 hy
 ·obtain rfl : j = k := by omega
  rw [hx] at hy
  cases hy
  exact hp
set_option maxHeartbeats 8000000 in
set_option maxRecDepth 100000 in
theorem rof_any (okA : Nat → Prop) (a b : ByteArray) (l : List CellM) (A : Option Addr) (c : Nat) (w : World) (hok : ∀ j, okA j → j < w.heap.size) (hA : CAt okA w A l.length c l) (hl : l.length ≤ 100) (ht : ∀ x ∈ l, TimeOk x) (hs : ∀ x ∈ l, Sh x.f0) (ha : a.size ≤ 10000) (hb : b.size ≤ 10000) :
  Calls Tryz.prog 41 #[.string a, .string b, .slice A l.length c] w fun e w' => ROfPost okA a b l w e w' := by
 have hC := hA.now
 have hc := hA.cap
 have HA := zA.mk (And.intro hA hok)
 have HC := zA.mk (And.intro hC (And.intro hc hl))
 have HT := zA.mk (And.intro ht hs)
 have HAB := zA.mk (And.intro ha hb)
 obtain ⟨n, hn⟩ : ∃ n, l.length = n := ⟨_, rfl⟩
 have HN := zA.mk hn
 rw [hn] at hl hc ⊢
 obtain ⟨r, hr⟩ : ∃ r, zFf a b = r := ⟨_, rfl⟩
 have HR := zA.mk hr
 clear hC hA hok hn ht hs hr
 go_enter Tryz.func41, Tryz.ntmps41
 go_wp2_with fail
 refine (rr10_any a b HAB.out.1 HAB.out.2 _).mono ?_
 rintro e w1 ⟨rfl, hb1⟩
 have HB1 : zA (Below w.heap.size w w1) := ⟨(zAa (Below.refl _ _) _).trans (hb1.mono (by simp))⟩
 have HD1 : zA (w1.heap[w.heap.size]? = some (.cells #[.string ⟨#[]⟩, .string ⟨#[]⟩, .slice none 0 0] 25 (0, 0))) := ⟨zAe (heap_alloc_new _ _) hb1⟩
 rw [HR.out]
 clear hb1
 cases r with
 | false =>
  have HNO : zA (ofK a b l = 1) := ⟨by unfold ofK; rw [if_pos HR.out]⟩
  have f0 := zAd HD1.out 0
  have f1 := zAd HD1.out 1
  have f2 := zAd HD1.out 2
  have d0 := (zAb HD1.out 0).trans (rfl : _ = some (Value.string ⟨#[]⟩))
  have d1 := (zAb HD1.out 1).trans (rfl : _ = some (Value.string ⟨#[]⟩))
  have d2 := (zAb HD1.out 2).trans (rfl : _ = some (Value.slice none 0 0))
  have hld := zAi HD1.out
  go_wp2_with fail
  have hset := zEc HD1.out (.string ⟨#[]⟩) (.string ⟨#[]⟩) (.slice none 0 0)
  have e0 := (zAb hset 0).trans (rfl : _ = some (Value.string ⟨#[]⟩))
  have e1 := (zAb hset 1).trans (rfl : _ = some (Value.string ⟨#[]⟩))
  have e2 := (zAb hset 2).trans (rfl : _ = some (Value.slice none 0 0))
  refine bodyPost_ret (v := .tuple #[.agg #[.string ⟨#[]⟩, .string ⟨#[]⟩, .slice none 0 0], .int .i64 1]) (by simp [results, Tryz.results41, go_sem, e0, e1, e2]) rfl ?_
  exact rofPost_no HNO.out (by decide) (zDb HB1.out (Nat.le_refl _) _ _ _)
 | true =>
  go_upto_region 5 with fail
  have HB2 : zA (Below w.heap.size w (w1.alloc (.cells #[.string a, .string b, .slice none 0 0] 25))) := ⟨zAa HB1.out _⟩
  have HD2 : zA ((w1.alloc (.cells #[.string a, .string b, .slice none 0 0] 25)).heap[w.heap.size]? = some (.cells #[.string ⟨#[]⟩, .string ⟨#[]⟩, .slice none 0 0] 25 (0, 0))) := ⟨zAh HD1.out _⟩
  have HE2 : zA ((w1.alloc (.cells #[.string a, .string b, .slice none 0 0] 25)).heap[w1.heap.size]? = some (.cells #[.string a, .string b, .slice none 0 0] 25 (0, 0))) := ⟨heap_alloc_new _ _⟩
  have HGE : zA (w.heap.size < w1.heap.size) := ⟨zAi HD1.out⟩
  generalize w1.alloc (.cells #[.string a, .string b, .slice none 0 0] 25) = w2 at HB2 HD2 HE2 ⊢
  clear HB1 HD1
  generalize w1.heap.size = g at HE2 HGE ⊢
  go_loopg [9] n (fun gg v9 wr => ∃ k : Nat, k ≤ n ∧ n - k ≤ gg ∧ v9 = .int .i64 k ∧ zA (∀ j : Nat, ∀ y, j < k → l[j]? = some y → (!zGb y) = false) ∧ zA (Below w.heap.size w wr) ∧ zA (wr.heap[w.heap.size]? = some (.cells #[.string ⟨#[]⟩, .string ⟨#[]⟩, .slice none 0 0] 25 (0, 0))) ∧ zA (wr.heap[g]? = some (.cells #[.string a, .string b, .slice none 0 0] 25 (0, 0))))
  case atStart => exact ⟨0, Nat.zero_le _, by omega, rfl, ⟨fun j y hj => absurd hj (Nat.not_lt_zero _)⟩, HB2, HD2, HE2⟩
  case round =>
   obtain ⟨k, hk, hg, rfl, HJ, HB, HD, HE⟩ := hrel
   by_cases hlt : k < n
   ·have hltz : (k : Int) < (n : Int) := by omega
    have HCW : zA (kC.C wr A n l) := ⟨by rw [← HN.out]; exact Kd.zBa HC.out.1 HB.out⟩
    obtain ⟨ad, A4, c4, rfl, p0, p1, p2, p3, p4, p5, p6, p7⟩ := PSplitCuts.zGe HCW.out (k : Int) (by omega) hltz
    simp only [Int.toNat_natCast] at p0 p1 p2 p3 p4 p5
    have hxk : l[k]? = some (PSplitCuts.zBb l k) := by
     unfold PSplitCuts.zBb
     rw [Int.toNat_natCast, List.getD_eq_getElem?_getD, List.getElem?_eq_getElem (by have := HN.out; omega)]
     rfl
    generalize PSplitCuts.zBb l (k : Int) = x at p0 p1 p2 p3 p4 p5 p6 p7 hxk
    have HX := zA.mk hxk
    have HXM := zA.mk (List.mem_of_getElem? hxk)
    obtain ⟨lx, hlx⟩ : ∃ lx, x.f1.length = lx := ⟨_, rfl⟩
    have HLX := zA.mk hlx
    rw [hlx] at p4 p6
    clear hxk hlx HCW
    obtain ⟨i, hi⟩ : ∃ i, Cp.zGa x.f0.f0 x.f0.f1 x.f0.f2 = i := ⟨_, rfl⟩
    have HI : zA ((i = 0 ∧ zGb x = true) ∨ (i = 5 ∧ zGb x = false)) := ⟨by
     rw [← hi]
     unfold zGb
     cases h : Cp.okB x.f0.f0 x.f0.f1 x.f0.f2 with
     | true => exact .inl ⟨Cp.rightI_ok h, rfl⟩
     | false => exact .inr ⟨Cp.rightI_bad h, rfl⟩⟩
    have hcall := rright_any x.f0 wr
    rw [hi] at hcall
    unfold keyV at hcall
    have HCALL := zA.mk hcall
    clear hcall hi p4 p5 p6 p7
    go_wp2_with fail
    refine HCALL.out.mono ?_
    rintro e w4 ⟨rfl, hb4⟩
    have HB4 : zA (Below w.heap.size w w4) := ⟨HB.out.trans (hb4.mono HB.out.size)⟩
    have HD4 := zA.mk (zAe HD.out hb4)
    have HE4 := zA.mk (zAe HE.out hb4)
    clear hb4 HCALL p0 p1 p2 p3
    rcases HI.out with ⟨rfl, hkx⟩ | ⟨rfl, hkx⟩
    ·have HKX := zA.mk hkx
     clear hkx HI
     go_wp2_with fail
     go_roundg (n - (k + 1))
     case measure => omega
     case rel => exact ⟨k + 1, by omega, by omega, by go_num, ⟨snoc_get HJ.out HX.out (by rw [HKX.out]; rfl)⟩, HB4, HD4, HE4⟩
    ·have HNO : zA (ofK a b l = 5) := ⟨by unfold ofK; rw [if_neg (by rw [HR.out]; simp), if_pos (any_at HX.out (by rw [hkx]; rfl))]⟩
     clear hkx HI
     have f0 := zAd HD4.out 0
     have f1 := zAd HD4.out 1
     have f2 := zAd HD4.out 2
     have d0 := (zAb HD4.out 0).trans (rfl : _ = some (Value.string ⟨#[]⟩))
     have d1 := (zAb HD4.out 1).trans (rfl : _ = some (Value.string ⟨#[]⟩))
     have d2 := (zAb HD4.out 2).trans (rfl : _ = some (Value.slice none 0 0))
     have hld := zAi HD4.out
     go_wp2_with fail
     have hset := zEc HD4.out (.string ⟨#[]⟩) (.string ⟨#[]⟩) (.slice none 0 0)
     have e0 := (zAb hset 0).trans (rfl : _ = some (Value.string ⟨#[]⟩))
     have e1 := (zAb hset 1).trans (rfl : _ = some (Value.string ⟨#[]⟩))
     have e2 := (zAb hset 2).trans (rfl : _ = some (Value.slice none 0 0))
     refine bodyPost_ret (v := .tuple #[.agg #[.string ⟨#[]⟩, .string ⟨#[]⟩, .slice none 0 0], .int .i64 5]) (by simp [results, Tryz.results41, go_sem, e0, e1, e2]) rfl ?_
     exact rofPost_no HNO.out (by decide) (zDb HB4.out (Nat.le_refl _) _ _ _)
   ·have hltz : ¬ (k : Int) < (n : Int) := by omega
    have hkn : n = k := by omega
    subst hkn
    have HA1 : zA (l.any (fun x => !zGb x) = false) := ⟨any_of_get (fun j y hj hy => HJ.out j y (by rw [HN.out] at hj; exact hj) hy)⟩
    clear HB2 HD2 HE2 HJ
    go_upto_region 10 with fail
    go_loopg [10] n (fun gg v9 wr => ∃ k : Nat, k ≤ n ∧ n - k ≤ gg ∧ v9 = .int .i64 k ∧ zA (∀ j : Nat, ∀ y, j < k → l[j]? = some y → (!insT a b y.f0.f0) = false) ∧ zA (Below w.heap.size w wr) ∧ zA (wr.heap[w.heap.size]? = some (.cells #[.string ⟨#[]⟩, .string ⟨#[]⟩, .slice none 0 0] 25 (0, 0))) ∧ zA (wr.heap[g]? = some (.cells #[.string a, .string b, .slice none 0 0] 25 (0, 0))))
    case atStart => exact ⟨0, Nat.zero_le _, by omega, rfl, ⟨fun j y hj => absurd hj (Nat.not_lt_zero _)⟩, HB, HD, HE⟩
    case round =>
     clear HB HD HE
     obtain ⟨k, hk, hg, rfl, HJ, HB, HD, HE⟩ := hrel
     by_cases hlt : k < n
     ·have hltz : (k : Int) < (n : Int) := by omega
      have HCW : zA (kC.C wr A n l) := ⟨by rw [← HN.out]; exact Kd.zBa HC.out.1 HB.out⟩
      obtain ⟨ad, A4, c4, rfl, p0, p1, p2, p3, p4, p5, p6, p7⟩ := PSplitCuts.zGe HCW.out (k : Int) (by omega) hltz
      simp only [Int.toNat_natCast] at p0 p1 p2 p3 p4 p5
      have hxk : l[k]? = some (PSplitCuts.zBb l k) := by
       unfold PSplitCuts.zBb
       rw [Int.toNat_natCast, List.getD_eq_getElem?_getD, List.getElem?_eq_getElem (by have := HN.out; omega)]
       rfl
      generalize PSplitCuts.zBb l (k : Int) = x at p0 p1 p2 p3 p4 p5 p6 p7 hxk
      have HX := zA.mk hxk
      have HXM := zA.mk (List.mem_of_getElem? hxk)
      obtain ⟨lx, hlx⟩ : ∃ lx, x.f1.length = lx := ⟨_, rfl⟩
      have HLX := zA.mk hlx
      rw [hlx] at p4 p6
      clear hxk hlx HCW
      obtain ⟨i, hi⟩ : ∃ i, insT a b x.f0.f0 = i := ⟨_, rfl⟩
      have HI := zA.mk hi
      have e0 := (zAb HE.out 0).trans (rfl : _ = some (Value.string a))
      have e1 := (zAb HE.out 1).trans (rfl : _ = some (Value.string b))
      have e2 := (zAb HE.out 2).trans (rfl : _ = some (Value.slice none 0 0))
      have hle := zAi HE.out
      have HCALL : zA (∀ W : Bl wr, Calls Tryz.prog 56 #[.agg #[.string a, .string b, .slice none 0 0], .string x.f0.f0] W.1 fun e w'' => e = .returned (.bool i) ∧ ∃ j : Bl wr, w'' = j.1) := ⟨fun W => bl_call (i := W) (by
       have h9 := rins_any a b x.f0.f0 HAB.out.1 HAB.out.2 (HT.out.2 x HXM.out).a none 0 [] W.1 ⟨rfl, Nat.zero_le _, fun h => absurd h (by simp)⟩ (Nat.le_refl _)
       rw [hi] at h9
       exact h9)⟩
      clear hi p1 p2 p3 p4 p5 p6 p7
      go_upto_region 12 with fail
      have Q_e0 := fun i => zDc e0 i
      have Q_e1 := fun i => zDc e1 i
      have Q_e2 := fun i => zDc e2 i
      have Q_p0 := fun i => zDc p0 i
      refine wp_region_bl (by kernel_rfl) (by kernel_rfl) ?_
      repeat (go_big_quiet_step (exact HCALL.out _))
      refine wpQuiet_nil ?_
      intro w4 hw4
      obtain ⟨i4, e4⟩ := hw4
      have hb4 := i4.2
      rw [← e4] at hb4
      have HB4 : zA (Below w.heap.size w w4) := ⟨HB.out.trans (hb4.mono HB.out.size)⟩
      have HD4 := zA.mk (zAe HD.out hb4)
      have HE4 := zA.mk (zAe HE.out hb4)
      clear e4 i4 hb4 Q_e0 Q_e1 Q_e2 Q_p0 HCALL e0 e1 e2 p0 hle HB HD HE
      cases i
      case true =>
       go_wp2_with fail
       go_roundg (n - (k + 1))
       case measure => omega
       case rel => exact ⟨k + 1, by omega, by omega, by go_num, ⟨snoc_get HJ.out HX.out (by rw [HI.out]; rfl)⟩, HB4, HD4, HE4⟩
      case false =>
       have HNO : zA (ofK a b l = 8) := ⟨by unfold ofK; rw [if_neg (by rw [HR.out]; simp), if_neg (by rw [HA1.out]; simp), if_pos (any_at HX.out (by rw [HI.out]; rfl))]⟩
       have f0 := zAd HD4.out 0
       have f1 := zAd HD4.out 1
       have f2 := zAd HD4.out 2
       have d0 := (zAb HD4.out 0).trans (rfl : _ = some (Value.string ⟨#[]⟩))
       have d1 := (zAb HD4.out 1).trans (rfl : _ = some (Value.string ⟨#[]⟩))
       have d2 := (zAb HD4.out 2).trans (rfl : _ = some (Value.slice none 0 0))
       have hld := zAi HD4.out
       go_wp2_with fail
       have hset := zEc HD4.out (.string ⟨#[]⟩) (.string ⟨#[]⟩) (.slice none 0 0)
       have e0 := (zAb hset 0).trans (rfl : _ = some (Value.string ⟨#[]⟩))
       have e1 := (zAb hset 1).trans (rfl : _ = some (Value.string ⟨#[]⟩))
       have e2 := (zAb hset 2).trans (rfl : _ = some (Value.slice none 0 0))
       refine bodyPost_ret (v := .tuple #[.agg #[.string ⟨#[]⟩, .string ⟨#[]⟩, .slice none 0 0], .int .i64 8]) (by simp [results, Tryz.results41, go_sem, e0, e1, e2]) rfl ?_
       exact rofPost_no HNO.out (by decide) (zDb HB4.out (Nat.le_refl _) _ _ _)
     ·have hltz : ¬ (k : Int) < (n : Int) := by omega
      have hkn : n = k := by omega
      subst hkn
      have HA2 : zA (l.any (fun x => !insT a b x.f0.f0) = false) := ⟨any_of_get (fun j y hj hy => HJ.out j y (by rw [HN.out] at hj; exact hj) hy)⟩
      clear HJ
      go_upto_region 15 with fail
      go_loopg [11] n (fun gg v9 wr => ∃ k : Nat, k ≤ n ∧ n - k ≤ gg ∧ v9 = .int .i64 k ∧ zA (∀ j : Nat, ∀ y, j < k → l[j]? = some y → (!zFj y) = false) ∧ zA (Below w.heap.size w wr) ∧ zA (wr.heap[w.heap.size]? = some (.cells #[.string ⟨#[]⟩, .string ⟨#[]⟩, .slice none 0 0] 25 (0, 0))) ∧ zA (wr.heap[g]? = some (.cells #[.string a, .string b, .slice none 0 0] 25 (0, 0))))
      case atStart => exact ⟨0, Nat.zero_le _, by omega, rfl, ⟨fun j y hj => absurd hj (Nat.not_lt_zero _)⟩, HB, HD, HE⟩
      case round =>
       clear HB HD HE
       obtain ⟨k, hk, hg, rfl, HJ, HB, HD, HE⟩ := hrel
       by_cases hlt : k < n
       ·have hltz : (k : Int) < (n : Int) := by omega
        have HCW : zA (kC.C wr A n l) := ⟨by rw [← HN.out]; exact Kd.zBa HC.out.1 HB.out⟩
        obtain ⟨ad, A4, c4, rfl, p0, p1, p2, p3, p4, p5, p6, p7⟩ := PSplitCuts.zGe HCW.out (k : Int) (by omega) hltz
        simp only [Int.toNat_natCast] at p0 p1 p2 p3 p4 p5
        have hxk : l[k]? = some (PSplitCuts.zBb l k) := by
         unfold PSplitCuts.zBb
         rw [Int.toNat_natCast, List.getD_eq_getElem?_getD, List.getElem?_eq_getElem (by have := HN.out; omega)]
         rfl
        generalize PSplitCuts.zBb l (k : Int) = x at p0 p1 p2 p3 p4 p5 p6 p7 hxk
        have HX := zA.mk hxk
        have HXM := zA.mk (List.mem_of_getElem? hxk)
        obtain ⟨lx, hlx⟩ : ∃ lx, x.f1.length = lx := ⟨_, rfl⟩
        have HLX := zA.mk hlx
        rw [hlx] at p4 p6
        clear hxk hlx HCW
        have HV : zA (zFj x = (decide (lx ≤ 256) && !(x.f2 && decide (0 < lx)))) := ⟨by unfold zFj; rw [HLX.out]⟩
        obtain ⟨gn, hgn⟩ : ∃ gn, x.f2 = gn := ⟨_, rfl⟩
        rw [hgn] at p5 HV
        clear hgn p7 p0 p1 p2 p3
        rcases Nat.lt_or_ge 256 lx with h1 | h1
        ·have z1 : decide ((256 : Int) < (lx : Int)) = true := Cp.dt (by omega)
         have HNO : zA (ofK a b l = 1) := ⟨by unfold ofK; rw [if_neg (by rw [HR.out]; simp), if_neg (by rw [HA1.out]; simp), if_neg (by rw [HA2.out]; simp), if_pos (any_at HX.out (by rw [HV.out, decide_eq_false (by omega)]; rfl))]⟩
         have f0 := zAd HD.out 0
         have f1 := zAd HD.out 1
         have f2 := zAd HD.out 2
         have d0 := (zAb HD.out 0).trans (rfl : _ = some (Value.string ⟨#[]⟩))
         have d1 := (zAb HD.out 1).trans (rfl : _ = some (Value.string ⟨#[]⟩))
         have d2 := (zAb HD.out 2).trans (rfl : _ = some (Value.slice none 0 0))
         have hld := zAi HD.out
         go_wp2_with fail
         have hset := zEc HD.out (.string ⟨#[]⟩) (.string ⟨#[]⟩) (.slice none 0 0)
         have e0 := (zAb hset 0).trans (rfl : _ = some (Value.string ⟨#[]⟩))
         have e1 := (zAb hset 1).trans (rfl : _ = some (Value.string ⟨#[]⟩))
         have e2 := (zAb hset 2).trans (rfl : _ = some (Value.slice none 0 0))
         refine bodyPost_ret (v := .tuple #[.agg #[.string ⟨#[]⟩, .string ⟨#[]⟩, .slice none 0 0], .int .i64 1]) (by simp [results, Tryz.results41, go_sem, e0, e1, e2]) rfl ?_
         exact rofPost_no HNO.out (by decide) (zDb HB.out (Nat.le_refl _) _ _ _)
        ·have z1 : decide ((256 : Int) < (lx : Int)) = false := Cp.df (by omega)
         cases gn
         case false =>
          have HK : zA ((!zFj x) = false) := ⟨by rw [HV.out, decide_eq_true h1]; rfl⟩
          go_wp2_with fail
          go_roundg (n - (k + 1))
          case measure => omega
          case rel => exact ⟨k + 1, by omega, by omega, by go_num, ⟨snoc_get HJ.out HX.out HK.out⟩, HB, HD, HE⟩
         case true =>
          rcases Nat.eq_zero_or_pos lx with h2 | h2
          ·have HK : zA ((!zFj x) = false) := ⟨by rw [HV.out, decide_eq_true h1, decide_eq_false (by omega)]; rfl⟩
           subst h2
           go_wp2_with fail
           go_roundg (n - (k + 1))
           case measure => omega
           case rel => exact ⟨k + 1, by omega, by omega, by go_num, ⟨snoc_get HJ.out HX.out HK.out⟩, HB, HD, HE⟩
          ·have z2 : decide ((0 : Int) < (lx : Int)) = true := Cp.dt (by omega)
           have HNO : zA (ofK a b l = 1) := ⟨by unfold ofK; rw [if_neg (by rw [HR.out]; simp), if_neg (by rw [HA1.out]; simp), if_neg (by rw [HA2.out]; simp), if_pos (any_at HX.out (by rw [HV.out, decide_eq_true h1, decide_eq_true h2]; rfl))]⟩
           have f0 := zAd HD.out 0
           have f1 := zAd HD.out 1
           have f2 := zAd HD.out 2
           have d0 := (zAb HD.out 0).trans (rfl : _ = some (Value.string ⟨#[]⟩))
           have d1 := (zAb HD.out 1).trans (rfl : _ = some (Value.string ⟨#[]⟩))
           have d2 := (zAb HD.out 2).trans (rfl : _ = some (Value.slice none 0 0))
           have hld := zAi HD.out
           go_wp2_with fail
           have hset := zEc HD.out (.string ⟨#[]⟩) (.string ⟨#[]⟩) (.slice none 0 0)
           have e0 := (zAb hset 0).trans (rfl : _ = some (Value.string ⟨#[]⟩))
           have e1 := (zAb hset 1).trans (rfl : _ = some (Value.string ⟨#[]⟩))
           have e2 := (zAb hset 2).trans (rfl : _ = some (Value.slice none 0 0))
           refine bodyPost_ret (v := .tuple #[.agg #[.string ⟨#[]⟩, .string ⟨#[]⟩, .slice none 0 0], .int .i64 1]) (by simp [results, Tryz.results41, go_sem, e0, e1, e2]) rfl ?_
           exact rofPost_no HNO.out (by decide) (zDb HB.out (Nat.le_refl _) _ _ _)
       ·have hltz : ¬ (k : Int) < (n : Int) := by omega
        have hkn : n = k := by omega
        subst hkn
        have HA3 : zA (l.any (fun x => !zFj x) = false) := ⟨any_of_get (fun j y hj hy => HJ.out j y (by rw [HN.out] at hj; exact hj) hy)⟩
        clear HJ
        have HOK : zA (∀ x ∈ l, OkC x) := ⟨fun x hx => by
         have h1 := List.any_eq_false.1 HA1.out x hx
         have h3 := List.any_eq_false.1 HA3.out x hx
         exact okC_of (by simpa using h1) (by simpa using h3) (HT.out.1 x hx)⟩
        go_upto_region 20 with fail
        go_loopg [12] n (fun gg v9 wr => ∃ (k : Nat) (Ak : Option Addr) (nk ck : Nat), k ≤ n ∧ n - k ≤ gg ∧ v9 = .int .i64 k ∧ zA (Below w.heap.size w wr) ∧ zA (wr.heap[w.heap.size]? = some (.cells #[.string ⟨#[]⟩, .string ⟨#[]⟩, .slice none 0 0] 25 (0, 0))) ∧ zA (wr.heap[g]? = some (.cells #[.string a, .string b, .slice Ak nk ck] 25 (0, 0))) ∧ zA (CAt (okQ okA g) wr Ak nk ck ((l.take k).foldl putF [])))
        case atStart => exact ⟨0, none, 0, 0, Nat.zero_le _, by omega, rfl, HB, HD, HE, ⟨CAt.nil _ _⟩⟩
        case round =>
         clear HB HD HE
         obtain ⟨k, Ak, nk, ck, hk, hg, rfl, HB, HD, HE, HK⟩ := hrel
         by_cases hlt : k < n
         ·have hltz : (k : Int) < (n : Int) := by omega
          obtain ⟨ad, A4, c4, rfl, p0, p1, p2, p3, p4, p5, p6, p7⟩ := PSplitCuts.zGe HC.out.1 (k : Int) (by omega) (by rw [HN.out]; exact hltz)
          simp only [Int.toNat_natCast] at p0 p1 p2 p3 p4 p5
          have hxk : l[k]? = some (PSplitCuts.zBb l k) := by
           unfold PSplitCuts.zBb
           rw [Int.toNat_natCast, List.getD_eq_getElem?_getD, List.getElem?_eq_getElem (by have := HN.out; omega)]
           rfl
          generalize PSplitCuts.zBb l (k : Int) = x at p0 p1 p2 p3 p4 p5 p6 p7 hxk
          have HX := zA.mk hxk
          have HXM := zA.mk (List.mem_of_getElem? hxk)
          obtain ⟨lx, hlx⟩ : ∃ lx, x.f1.length = lx := ⟨_, rfl⟩
          have HLX := zA.mk hlx
          have HBV : zA (FF (fun W => BAt W ⟨A4, lx, c4⟩ x.f1) okA w) := ⟨CAt.bytes HA.out.1 hxk (by rw [← hlx]; exact p4)⟩
          rw [hlx] at p4
          have hadb : ad.block < w.heap.size := by
           have h9 := World.block_lt_of_cell? w _ p0
           rwa [add_block] at h9
          have eW : ∀ {p : Addr} {v : Value}, w.cell? p = some v → wr.cell? p = some v := fun h => (HB.out.cell (World.block_lt_of_cell? w _ h)).trans h
          have p0 := eW p0
          have p1 := eW p1
          have p2 := eW p2
          have p3 := eW p3
          have p4 := eW p4
          have p5 := eW p5
          have hgw : w.heap.size ≤ g := by have := HGE.out; omega
          have hgr : g < wr.heap.size := zAi HE.out
          clear hxk hlx p6 p7 eW
          have e2 := (zAb HE.out 2).trans (rfl : _ = some (Value.slice Ak nk ck))
          have hle := zAi HE.out
          have HCALL : zA (∀ X, Below wr.heap.size wr X → Calls Tryz.prog 79 #[.slice Ak nk ck, .agg #[.string x.f0.f0, .string x.f0.f1, .string x.f0.f2, .int .u64 x.f0.f3, .slice A4 lx c4, .bool x.f2]] X fun e w'' => ∃ A' n' c', e = .returned (.slice A' n' c') ∧ CAt (okQ okA g) w'' A' n' c' ((l.take (k + 1)).foldl putF []) ∧ Below X.heap.size X w'') := ⟨fun X hX => by
           have hk8 := HK.out.len
           have h9 := rput_any (okQ okA g) ((l.take k).foldl putF []) x Ak ck A4 c4 X (by rw [← hk8]; exact HK.out.keep hX) (foldl_put_ok _ _ .nil (fun y hy => HOK.out y (List.mem_of_mem_take hy))) (HOK.out x HXM.out) (by
            have h8 := foldl_put_len (l.take k) []
            rw [List.length_take] at h8
            simp at h8
            omega) (by
             rw [HLX.out]
             exact (HBV.out.keep (HB.out.trans (hX.mono HB.out.size))).mono (fun j hj => .inl hj))
           unfold cellV at h9
           rw [HLX.out, ← hk8, ← take_foldl HX.out] at h9
           refine h9.mono ?_
           rintro e w' ⟨A', c', rfl, h1, h3⟩
           refine ⟨A', _, c', rfl, h1.mono (fun j hj => ?_), h3⟩
           rcases hj with hj | hj
           ·exact hj
           ·have := hX.size
            exact .inr (by omega)⟩
          have HKEEP : zA (∀ X, Below w.heap.size wr X → X.cell? (ad.add (k * 6)) = some (.string x.f0.f0) ∧ X.cell? ⟨(ad.add (k * 6)).block, (ad.add (k * 6)).off + 1, none⟩ = some (.string x.f0.f1) ∧ X.cell? ⟨(ad.add (k * 6)).block, (ad.add (k * 6)).off + 2, none⟩ = some (.string x.f0.f2) ∧ X.cell? ⟨(ad.add (k * 6)).block, (ad.add (k * 6)).off + 3, none⟩ = some (.int .u64 x.f0.f3) ∧ X.cell? ⟨(ad.add (k * 6)).block, (ad.add (k * 6)).off + 4, none⟩ = some (.slice A4 lx c4) ∧ X.cell? ⟨(ad.add (k * 6)).block, (ad.add (k * 6)).off + 5, none⟩ = some (.bool x.f2)) := ⟨fun X hX =>
           have e : ∀ {p : Addr} {v : Value}, p.block = ad.block → wr.cell? p = some v → X.cell? p = some v := fun hp h => (hX.cell (by rw [hp]; exact hadb)).trans h
           ⟨e (add_block _ _) p0, e (add_block _ _) p1, e (add_block _ _) p2, e (add_block _ _) p3, e (add_block _ _) p4, e (add_block _ _) p5⟩⟩
          go_upto_region 22 with fail
          go_region_with ((go_at_call 79; refine (HCALL.out _ (by with_reducible repeat (first | exact Below.refl _ _ | refine zAf ?_ | refine zAc ?_ _ | refine zAa ?_ _))).mono ?_; rintro e W4 ⟨A9, n9, c9, rfl, hk9, hb9⟩; have hb4 := bl_to (w2 := wr) (by with_reducible repeat (first | exact Below.refl _ _ | refine zAf ?_ | refine zAc ?_ _ | refine zAa ?_ _)) hb9; have HB9 := zA.mk hb4; have HBX9 : zA (Below w.heap.size wr W4) := ⟨hb4.mono HB.out.size⟩; have HK9 := zA.mk hk9; have E9 := zA.mk (zAe HE.out hb4); have f92 := zAd E9.out 2; have e92 := (zAb E9.out 2).trans (rfl : _ = some (Value.slice Ak nk ck)); have hl9 := zAi E9.out; clear hk9 hb9 hb4))
          all_goals (
           have hset := zCf E9.out 2 (.slice A9 n9 c9)
           have HE5 : zA ((W4.setCell ⟨g, 2, none⟩ (.slice A9 n9 c9)).heap[g]? = some (.cells #[.string a, .string b, .slice A9 n9 c9] 25 (0, 0))) := ⟨hset.trans rfl⟩
           have HB5 : zA (Below w.heap.size w (W4.setCell ⟨g, 2, none⟩ (.slice A9 n9 c9))) := ⟨(HB.out.trans (HB9.out.mono HB.out.size)).setCell hgw _⟩
           have HD5 : zA ((W4.setCell ⟨g, 2, none⟩ (.slice A9 n9 c9)).heap[w.heap.size]? = some (.cells #[.string ⟨#[]⟩, .string ⟨#[]⟩, .slice none 0 0] 25 (0, 0))) := ⟨(Below.heap_setCell _ _ _ _ (by have := HGE.out; simp; omega)).trans (zAe HD.out HB9.out)⟩
           have HK5 : zA (CAt (okQ okA g) (W4.setCell ⟨g, 2, none⟩ (.slice A9 n9 c9)) A9 n9 c9 ((l.take (k + 1)).foldl putF [])) := ⟨HK9.out.step (fun j hj _ => Below.heap_setCell _ _ _ _ (by have := HGE.out; simp; rcases hj with hj | hj; (have := HA.out.2 j hj; omega); omega))⟩
           clear HKEEP hset p0 p1 p2 p3 p4 p5 e2 hle
           go_wp2_with fail
           go_roundg (n - (k + 1))
           case measure => omega
           case rel => exact ⟨k + 1, A9, n9, c9, by omega, by omega, by go_num, HB5, HD5, HE5, HK5⟩)
         ·have hltz : ¬ (k : Int) < (n : Int) := by omega
          have hkn : n = k := by omega
          subst hkn
          have e9 : l.take n = l := List.take_of_length_le (by rw [HN.out]; exact Nat.le_refl _)
          rw [e9] at HK
          have HKA : zA (CAt (okQ okA g) wr Ak nk ck (zDi l)) := HK
          have HKL : zA (nk = (zDi l).length) := ⟨HKA.out.len⟩
          have HF : zA (ofK a b l = if nk ≠ n then 1 else if manyB l then 4 else if 32 < n then 9 else 0) := ⟨by
           unfold ofK
           rw [if_neg (by rw [HR.out]; simp), if_neg (by rw [HA1.out]; simp), if_neg (by rw [HA2.out]; simp), if_neg (by rw [HA3.out]; simp), HN.out, HKL.out]⟩
          have e2 := (zAb HE.out 2).trans (rfl : _ = some (Value.slice Ak nk ck))
          have hle := zAi HE.out
          clear e9 HK
          by_cases hLk : nk = n
          case neg =>
           have z1 : ((nk : Int) == (n : Int)) = false := by rw [beq_eq_false_iff_ne]; omega
           have z2 : ((nk : Int) != (n : Int)) = true := by rw [bne_iff_ne]; omega
           have HNO : zA (ofK a b l = 1) := ⟨by rw [HF.out, if_pos hLk]⟩
           clear HF hLk
           have f0 := zAd HD.out 0
           have f1 := zAd HD.out 1
           have f2 := zAd HD.out 2
           have d0 := (zAb HD.out 0).trans (rfl : _ = some (Value.string ⟨#[]⟩))
           have d1 := (zAb HD.out 1).trans (rfl : _ = some (Value.string ⟨#[]⟩))
           have d2 := (zAb HD.out 2).trans (rfl : _ = some (Value.slice none 0 0))
           have hld := zAi HD.out
           go_wp2_with fail
           have hset := zEc HD.out (.string ⟨#[]⟩) (.string ⟨#[]⟩) (.slice none 0 0)
           have e0 := (zAb hset 0).trans (rfl : _ = some (Value.string ⟨#[]⟩))
           have e1 := (zAb hset 1).trans (rfl : _ = some (Value.string ⟨#[]⟩))
           have e2 := (zAb hset 2).trans (rfl : _ = some (Value.slice none 0 0))
           refine bodyPost_ret (v := .tuple #[.agg #[.string ⟨#[]⟩, .string ⟨#[]⟩, .slice none 0 0], .int .i64 1]) (by simp [results, Tryz.results41, go_sem, e0, e1, e2]) rfl ?_
           exact rofPost_no HNO.out (by decide) (zDb HB.out (Nat.le_refl _) _ _ _)
          case pos =>
           have z1 : ((nk : Int) == (n : Int)) = true := by rw [beq_iff_eq]; omega
           have z2 : ((nk : Int) != (n : Int)) = false := by rw [bne_eq_false_iff_eq]; omega
           have HF2 : zA (ofK a b l = if manyB l then 4 else if 32 < n then 9 else 0) := ⟨by rw [HF.out, if_neg (by simpa using hLk)]⟩
           clear HF hLk
           go_upto_region 26 with fail
           go_loopg [13] n (fun gg v9 wr => ∃ k : Nat, k ≤ n ∧ n - k ≤ gg ∧ v9 = .int .i64 k ∧ zA (∀ j : Nat, ∀ y, j < k → l[j]? = some y → decide (4 < (colC y.f0 l).length) = false) ∧ zA (Below w.heap.size w wr) ∧ zA (wr.heap[w.heap.size]? = some (.cells #[.string ⟨#[]⟩, .string ⟨#[]⟩, .slice none 0 0] 25 (0, 0))) ∧ zA (wr.heap[g]? = some (.cells #[.string a, .string b, .slice Ak nk ck] 25 (0, 0))) ∧ zA (CAt (okQ okA g) wr Ak nk ck (zDi l)))
           case atStart => exact ⟨0, Nat.zero_le _, by omega, rfl, ⟨fun j y hj => absurd hj (Nat.not_lt_zero _)⟩, HB, HD, HE, HKA⟩
           case round =>
            clear HB HD HE HKA e2 hle
            obtain ⟨k, hk, hg, rfl, HJ, HB, HD, HE, HKA⟩ := hrel
            by_cases hlt : k < n
            ·have hltz : (k : Int) < (n : Int) := by omega
             have HCW : zA (kC.C wr A n l) := ⟨by rw [← HN.out]; exact Kd.zBa HC.out.1 HB.out⟩
             obtain ⟨ad, A4, c4, rfl, p0, p1, p2, p3, p4, p5, p6, p7⟩ := PSplitCuts.zGe HCW.out (k : Int) (by omega) hltz
             simp only [Int.toNat_natCast] at p0 p1 p2 p3 p4 p5
             have hxk : l[k]? = some (PSplitCuts.zBb l k) := by
              unfold PSplitCuts.zBb
              rw [Int.toNat_natCast, List.getD_eq_getElem?_getD, List.getElem?_eq_getElem (by have := HN.out; omega)]
              rfl
             generalize PSplitCuts.zBb l (k : Int) = x at p0 p1 p2 p3 p4 p5 p6 p7 hxk
             have HX := zA.mk hxk
             have HXM := zA.mk (List.mem_of_getElem? hxk)
             obtain ⟨lx, hlx⟩ : ∃ lx, x.f1.length = lx := ⟨_, rfl⟩
             have HLX := zA.mk hlx
             rw [hlx] at p4 p6
             clear hxk hlx HCW
             have HCALL : zA (Calls Tryz.prog 80 #[.slice (some ad) n c, .agg #[.string x.f0.f0, .string x.f0.f1, .string x.f0.f2, .int .u64 x.f0.f3]] wr fun e w' => ∃ A' c', e = .returned (.slice A' (colC x.f0 l).length c') ∧ Below wr.heap.size wr w') := ⟨by
              have h9 := rcolumn_any l (some ad) c wr (Kd.zBa HC.out.1 HB.out) (by have := HC.out.2.2; omega) x.f0
              rw [HN.out] at h9
              refine h9.mono ?_
              rintro e w' ⟨A', c', rfl, _, _, h3⟩
              exact ⟨A', c', rfl, h3⟩⟩
             obtain ⟨q, hq⟩ : ∃ q, (colC x.f0 l).length = q := ⟨_, rfl⟩
             rw [hq] at HCALL
             have HQ := zA.mk hq
             clear hq p4 p5 p6 p7
             go_wp2_with fail
             refine HCALL.out.mono ?_
             rintro e w4 ⟨A9, c9, rfl, hb4⟩
             have HB4 : zA (Below w.heap.size w w4) := ⟨HB.out.trans (hb4.mono HB.out.size)⟩
             have HD4 := zA.mk (zAe HD.out hb4)
             have HE4 := zA.mk (zAe HE.out hb4)
             have HK4 := zA.mk (HKA.out.keep hb4)
             clear hb4 HCALL p0 p1 p2 p3
             rcases Nat.lt_or_ge 4 q with h5 | h5
             ·have z3 : decide ((4 : Int) < (q : Int)) = true := Cp.dt (by omega)
              have HNO : zA (ofK a b l = 4) := ⟨by rw [HF2.out, if_pos (show manyB l = true from any_at HX.out (by rw [HQ.out]; exact decide_eq_true h5))]⟩
              have f0 := zAd HD4.out 0
              have f1 := zAd HD4.out 1
              have f2 := zAd HD4.out 2
              have d0 := (zAb HD4.out 0).trans (rfl : _ = some (Value.string ⟨#[]⟩))
              have d1 := (zAb HD4.out 1).trans (rfl : _ = some (Value.string ⟨#[]⟩))
              have d2 := (zAb HD4.out 2).trans (rfl : _ = some (Value.slice none 0 0))
              have hld := zAi HD4.out
              go_wp2_with fail
              have hset := zEc HD4.out (.string ⟨#[]⟩) (.string ⟨#[]⟩) (.slice none 0 0)
              have e0 := (zAb hset 0).trans (rfl : _ = some (Value.string ⟨#[]⟩))
              have e1 := (zAb hset 1).trans (rfl : _ = some (Value.string ⟨#[]⟩))
              have e2 := (zAb hset 2).trans (rfl : _ = some (Value.slice none 0 0))
              refine bodyPost_ret (v := .tuple #[.agg #[.string ⟨#[]⟩, .string ⟨#[]⟩, .slice none 0 0], .int .i64 4]) (by simp [results, Tryz.results41, go_sem, e0, e1, e2]) rfl ?_
              exact rofPost_no HNO.out (by decide) (zDb HB4.out (Nat.le_refl _) _ _ _)
             ·have z3 : decide ((4 : Int) < (q : Int)) = false := Cp.df (by omega)
              have HK9 : zA (decide (4 < (colC x.f0 l).length) = false) := ⟨by rw [HQ.out]; exact decide_eq_false (by omega)⟩
              go_wp2_with fail
              go_roundg (n - (k + 1))
              case measure => omega
              case rel => exact ⟨k + 1, by omega, by omega, by go_num, ⟨snoc_get HJ.out HX.out HK9.out⟩, HB4, HD4, HE4, HK4⟩
            ·have hltz : ¬ (k : Int) < (n : Int) := by omega
             have hkn : n = k := by omega
             subst hkn
             have HMN : zA (manyB l = false) := ⟨any_of_get (fun j y hj hy => HJ.out j y (by rw [HN.out] at hj; exact hj) hy)⟩
             clear HJ
             rcases Nat.lt_or_ge 32 n with h5 | h5
             ·have z3 : decide ((32 : Int) < (n : Int)) = true := Cp.dt (by omega)
              have HNO : zA (ofK a b l = 9) := ⟨by rw [HF2.out, HMN.out, if_neg (by simp), if_pos h5]⟩
              clear HF2
              have f0 := zAd HD.out 0
              have f1 := zAd HD.out 1
              have f2 := zAd HD.out 2
              have d0 := (zAb HD.out 0).trans (rfl : _ = some (Value.string ⟨#[]⟩))
              have d1 := (zAb HD.out 1).trans (rfl : _ = some (Value.string ⟨#[]⟩))
              have d2 := (zAb HD.out 2).trans (rfl : _ = some (Value.slice none 0 0))
              have hld := zAi HD.out
              go_wp2_with fail
              have hset := zEc HD.out (.string ⟨#[]⟩) (.string ⟨#[]⟩) (.slice none 0 0)
              have e0 := (zAb hset 0).trans (rfl : _ = some (Value.string ⟨#[]⟩))
              have e1 := (zAb hset 1).trans (rfl : _ = some (Value.string ⟨#[]⟩))
              have e2 := (zAb hset 2).trans (rfl : _ = some (Value.slice none 0 0))
              refine bodyPost_ret (v := .tuple #[.agg #[.string ⟨#[]⟩, .string ⟨#[]⟩, .slice none 0 0], .int .i64 9]) (by simp [results, Tryz.results41, go_sem, e0, e1, e2]) rfl ?_
              exact rofPost_no HNO.out (by decide) (zDb HB.out (Nat.le_refl _) _ _ _)
             ·have z3 : decide ((32 : Int) < (n : Int)) = false := Cp.df (by omega)
              have HNO : zA (ofK a b l = 0) := ⟨by rw [HF2.out, HMN.out, if_neg (by simp), if_neg (by omega)]⟩
              clear HF2
              have m0 := (zAb HE.out 0).trans (rfl : _ = some (Value.string a))
              have m1 := (zAb HE.out 1).trans (rfl : _ = some (Value.string b))
              have m2 := (zAb HE.out 2).trans (rfl : _ = some (Value.slice Ak nk ck))
              have hle := zAi HE.out
              have f0 := zAd HD.out 0
              have f1 := zAd HD.out 1
              have f2 := zAd HD.out 2
              have d0 := (zAb HD.out 0).trans (rfl : _ = some (Value.string ⟨#[]⟩))
              have d1 := (zAb HD.out 1).trans (rfl : _ = some (Value.string ⟨#[]⟩))
              have d2 := (zAb HD.out 2).trans (rfl : _ = some (Value.slice none 0 0))
              have hld := zAi HD.out
              go_wp2_with fail
              have hset := zEc HD.out (.string a) (.string b) (.slice Ak nk ck)
              have e0 := (zAb hset 0).trans (rfl : _ = some (Value.string a))
              have e1 := (zAb hset 1).trans (rfl : _ = some (Value.string b))
              have e2 := (zAb hset 2).trans (rfl : _ = some (Value.slice Ak nk ck))
              refine bodyPost_ret (v := .tuple #[.agg #[.string a, .string b, .slice Ak nk ck], .int .i64 0]) (by simp [results, Tryz.results41, go_sem, e0, e1, e2]) rfl ?_
              refine ⟨a, b, Ak, nk, ck, by rw [HNO.out], fun _ => ⟨rfl, rfl, ?_⟩, zDb HB.out (Nat.le_refl _) _ _ _⟩
              refine (HKA.out.step (fun j hj _ => ?_)).mono (fun j hj => ?_)
              ·have hjw : j ≠ w.heap.size := by have := HGE.out; rcases hj with hj | hj; (have := HA.out.2 j hj; omega); omega
               rw [Below.heap_setCell _ _ _ _ (by simpa using hjw), Below.heap_setCell _ _ _ _ (by simpa using hjw), Below.heap_setCell _ _ _ _ (by simpa using hjw)]
              ·rcases hj with hj | hj
               ·exact .inl hj
               ·exact .inr (by have := HGE.out; omega)
end Go.Proofs.YtpckachmleonlaaGreatDoor
end
