/- Words and walks for Split and Tablet: texts of these sessions, and of the kit's print, cut down to what is used (K3 Q4). -/
import Derived.Test.YtpckachmleonlaaGreatDoorCv32
import Derived.Test.YtpckachmleonlaaGreatDoorCv35
section
set_option linter.unusedVariables false
set_option linter.unusedSimpArgs false
namespace Go.Proofs.YtpckachmleonlaaGreatDoor
open Go.RowKit Go.Proofs.YtpckachmleonlaaGreatDoorW.PrintWords
open Go.ChangeMaps (setBlock heap_setBlock_same)
def OfPost (a b : ByteArray) (l : List CellM) (w : World) (e : Ending) (w' : World) : Prop :=
 (ofK a b l = 0 → ∃ p, e = .returned (.tuple #[.pointer (some ⟨p, 0, none⟩), .int .i64 0]) ∧ w.heap.size ≤ p ∧ TabAt (fun k => w.heap.size ≤ k ∧ k ≠ p) w' p a b (putAll l)) ∧
 (ofK a b l ≠ 0 → e = .returned (.tuple #[.pointer none, .int .i64 (ofK a b l)])) ∧ Below w.heap.size w w'
theorem okK_col {x : CellM} (h : OkC x) : OkK (col0 x.f0) := by
 have hk := of_decide_eq_true h.k
 unfold col0
 exact ⟨by unfold maxLen; simp only; omega, by unfold maxLen; simp only; omega, by unfold maxLen; simp only; omega, by simp only; decide⟩
theorem take_foldl {l : List CellM} {k : Nat} {x : CellM} (h : l[k]? = some x) : (l.take (k + 1)).foldl putF [] = putF ((l.take k).foldl putF []) x := by
 obtain ⟨hk, e⟩ := List.getElem?_eq_some_iff.1 h
 rw [List.take_succ_eq_append_getElem hk, List.foldl_append, e]
 rfl
theorem take_snoc {l : List CellM} {k : Nat} {x : CellM} (h : l[k]? = some x) : l.take (k + 1) = l.take k ++ [x] := by
 obtain ⟨hk, e⟩ := List.getElem?_eq_some_iff.1 h
 rw [List.take_succ_eq_append_getElem hk, e]
def okO (s m : Nat) (j : Nat) : Prop := s ≤ j ∧ j ≠ s ∧ j ≠ m
theorem ofPost_no {a b : ByteArray} {l : List CellM} {w w' : World} {i : Int} (h : ofK a b l = i) (hi : i ≠ 0) (hb : Below w.heap.size w w') : OfPost a b l w (.returned (.tuple #[.pointer none, .int .i64 i])) w' :=
 ⟨fun e => absurd (h.symm.trans e) hi, fun _ => by rw [h], hb⟩
set_option maxHeartbeats 4000000 in
set_option maxRecDepth 100000 in
theorem tof_any (a b : ByteArray) (l : List CellM) (A : Option Addr) (c : Nat) (w : World) (hC : kC.C w A l.length l) (hl : l.length ≤ 100) (ht : ∀ x ∈ l, TimeOk x) :
  Calls Tryz.prog 40 #[.string a, .string b, .slice A l.length c] w fun e w' => OfPost a b l w e w' := by
 have HC := zAa.mk (And.intro hC hl)
 have HT := zAa.mk ht
 obtain ⟨n, hn⟩ : ∃ n, l.length = n := ⟨_, rfl⟩
 have HN := zAa.mk hn
 have hmm := fun w => run_makeMap (P := Tryz.prog) 113 w
 rw [hn] at hl ⊢
 cases hr : rightT a b with
 | false =>
  have HNO : zAa (ofK a b l = 1) := ⟨by unfold ofK; rw [if_pos hr]⟩
  have HR := zAa.mk hr
  clear hC hn ht hr
  go_enter Tryz.func40, Tryz.ntmps40
  go_wp2_with fail
  refine (new_bad a b w HR.out).mono ?_
  rintro e w2 ⟨rfl, rfl⟩
  go_wp2_with fail
  go_ret2
  exact ofPost_no HNO.out (by decide) (zAb (Below.refl _ _) _)
 | true =>
  have HR := zAa.mk hr
  clear hC hn ht hr
  go_enter Tryz.func40, Tryz.ntmps40
  go_wp2_with fail
  refine (new_ok a b w HR.out).mono ?_
  rintro e w2 ⟨rfl, rfl⟩
  go_wp2_with fail
  have HB1 : zAa (Below w.heap.size w ((w.alloc (.cells #[.string a, .string b, .pointer none] 103)).alloc (.cells #[.pointer (some ⟨w.heap.size, 0, none⟩)] 23))) := ⟨zAb (zAb (Below.refl _ _) _) _⟩
  have HP1 : zAa (((w.alloc (.cells #[.string a, .string b, .pointer none] 103)).alloc (.cells #[.pointer (some ⟨w.heap.size, 0, none⟩)] 23)).heap[w.heap.size]? = some (.cells #[.string a, .string b, .pointer none] 103 (0, 0))) := ⟨zAi (heap_alloc_new _ _) _⟩
  have HG1 : zAa (((w.alloc (.cells #[.string a, .string b, .pointer none] 103)).alloc (.cells #[.pointer (some ⟨w.heap.size, 0, none⟩)] 23)).heap[w.heap.size + 1]? = some (.cells #[.pointer (some ⟨w.heap.size, 0, none⟩)] 23 (0, 0))) := ⟨Cp.zFi _ _ _⟩
  generalize (w.alloc (.cells #[.string a, .string b, .pointer none] 103)).alloc (.cells #[.pointer (some ⟨w.heap.size, 0, none⟩)] 23) = w1 at HB1 HP1 HG1 ⊢
  have hc1 := contains_any 73 #[] (enters_of Tryz.func73 (by kernel_rfl) rfl) (fun x => !keyOkB x) l A c w1 (Kd.zBb HC.out.1 HB1.out) (by have := HC.out.2; omega) (fun W x V c hb => (of1_any x V c W).mono fun e w' h => ⟨h.1, hb.trans (h.2.mono hb.size)⟩)
  rw [HN.out] at hc1
  cases hb1 : l.any (fun x => !keyOkB x) with
  | true =>
   have HNO : zAa (ofK a b l = 5) := ⟨by unfold ofK; rw [if_neg (by rw [HR.out]; simp), if_pos hb1]⟩
   rw [hb1] at hc1
   refine hc1.mono ?_
   rintro e w2 ⟨rfl, hb⟩
   have HB2 : zAa (Below w.heap.size w w2) := ⟨HB1.out.trans (hb.mono HB1.out.size)⟩
   clear hb hb1 hc1
   go_wp2_with fail
   go_ret2
   exact ofPost_no HNO.out (by decide) HB2.out
  | false =>
   rw [hb1] at hc1
   have HB1' := zAa.mk hb1
   refine hc1.mono ?_
   rintro e w2 ⟨rfl, hb⟩
   have HB2 : zAa (Below w.heap.size w w2) := ⟨HB1.out.trans (hb.mono HB1.out.size)⟩
   have HP2 := zAa.mk (zAf HP1.out hb)
   have HG2 := zAa.mk (zAf HG1.out hb)
   clear hb hb1 hc1 HP1 HG1
   go_wp2_with fail
   have hc2 := contains_any 75 #[.pointer (some ⟨w.heap.size + 1, 0, none⟩)] (enters_of Tryz.func75 (by kernel_rfl) rfl) (fun x => !insT a b x.f0.f0) l A c w2 (Kd.zBb HC.out.1 HB2.out) (by have := HC.out.2; omega) (fun W x V c hb => (of2_any w.heap.size a b (.pointer none) (w.heap.size + 1) x V c W (zAf HP2.out hb) (zAf HG2.out hb)).mono fun e w' h => ⟨h.1, hb.trans (h.2.mono hb.size)⟩)
   rw [HN.out] at hc2
   cases hb2 : l.any (fun x => !insT a b x.f0.f0) with
   | true =>
    have HNO : zAa (ofK a b l = 8) := ⟨by unfold ofK; rw [if_neg (by rw [HR.out]; simp), if_neg (by rw [HB1'.out]; simp), if_pos hb2]⟩
    rw [hb2] at hc2
    refine hc2.mono ?_
    rintro e w3 ⟨rfl, hb⟩
    have HB3 : zAa (Below w.heap.size w w3) := ⟨HB2.out.trans (hb.mono HB2.out.size)⟩
    clear hb hb2 hc2
    go_wp2_with fail
    go_ret2
    exact ofPost_no HNO.out (by decide) HB3.out
   | false =>
    rw [hb2] at hc2
    have HB2' := zAa.mk hb2
    refine hc2.mono ?_
    rintro e w3 ⟨rfl, hb⟩
    have HB3 : zAa (Below w.heap.size w w3) := ⟨HB2.out.trans (hb.mono HB2.out.size)⟩
    have HP3 := zAa.mk (zAf HP2.out hb)
    have HG3 := zAa.mk (zAf HG2.out hb)
    clear hb hb2 hc2 HP2 HG2
    go_wp2_with fail
    have hc3 := contains_any 77 #[] (enters_of Tryz.func77 (by kernel_rfl) rfl) (fun x => !valOkB x) l A c w3 (Kd.zBb HC.out.1 HB3.out) (by have := HC.out.2; omega) (fun W x V c hb => (of3_any x V c W).mono fun e w' h => ⟨h.1, hb.trans (h.2.mono hb.size)⟩)
    rw [HN.out] at hc3
    cases hb3 : l.any (fun x => !valOkB x) with
    | true =>
     have HNO : zAa (ofK a b l = 1) := ⟨by unfold ofK; rw [if_neg (by rw [HR.out]; simp), if_neg (by rw [HB1'.out]; simp), if_neg (by rw [HB2'.out]; simp), if_pos hb3]⟩
     rw [hb3] at hc3
     refine hc3.mono ?_
     rintro e w4 ⟨rfl, hb⟩
     have HB4 : zAa (Below w.heap.size w w4) := ⟨HB3.out.trans (hb.mono HB3.out.size)⟩
     clear hb hb3 hc3
     go_wp2_with fail
     go_ret2
     exact ofPost_no HNO.out (by decide) HB4.out
    | false =>
     rw [hb3] at hc3
     have HB3' := zAa.mk hb3
     refine hc3.mono ?_
     rintro e w4 ⟨rfl, hb⟩
     have HB4 : zAa (Below w.heap.size w w4) := ⟨HB3.out.trans (hb.mono HB3.out.size)⟩
     have HP4 := zAa.mk (zAf HP3.out hb)
     have HG4 := zAa.mk (zAf HG3.out hb)
     clear hb hb3 hc3 HP3 HG3
     go_upto_region 13 with fail
     have HOK : zAa (∀ x ∈ l, OkC x) := ⟨fun x hx => by
      have h1 := List.any_eq_false.1 HB1'.out x hx
      have h3 := List.any_eq_false.1 HB3'.out x hx
      exact okC_of (by simpa using h1) (by simpa using h3) (HT.out x hx)⟩
     have HM5 : zAa (MapAt (w4.alloc (.map #[] 0)) w4.heap.size []) := ⟨MapAt.made w4⟩
     have HB5 : zAa (Below w4.heap.size w4 (w4.alloc (.map #[] 0))) := ⟨zAb (Below.refl _ _) _⟩
     have HP5 := zAa.mk (zAf HP4.out HB5.out)
     have HG5 := zAa.mk (zAf HG4.out HB5.out)
     have HBB : zAa (Below w.heap.size w (w4.alloc (.map #[] 0))) := ⟨HB4.out.trans (HB5.out.mono HB4.out.size)⟩
     have HSZ : zAa (w.heap.size + 1 < w4.heap.size) := ⟨zAj HG4.out⟩
     generalize w4.alloc (.map #[] 0) = w5 at HM5 HB5 HP5 HG5 HBB ⊢
     clear HB5
     generalize w4.heap.size = M at HM5 HSZ ⊢
     clear HB4 HP4 HG4
     go_loopg [11, 13, 14, 38] n (fun gg v11 v13 v14 v38 wr => ∃ (k : Nat) (mm : List (KeyM × Int)) (q : Int), k ≤ n ∧ n - k ≤ gg ∧ v38 = .int .i64 k ∧ v11 = .int .i64 q ∧ zAa (Many (l.take k) mm q) ∧ zAa (MapAt wr M mm) ∧ zAa (TabAt (okO w.heap.size M) wr w.heap.size a b ((l.take k).foldl putF [])) ∧ zAa (wr.heap[w.heap.size + 1]? = some (.cells #[.pointer (some ⟨w.heap.size, 0, none⟩)] 23 (0, 0))) ∧ zAa (Below w.heap.size w wr))
     case atStart => exact ⟨0, [], 0, Nat.zero_le _, by omega, rfl, rfl, ⟨Many.nil⟩, HM5, ⟨⟨fun h => h.2.1 rfl, none, HP5.out, zDk.nil _ _⟩⟩, HG5, HBB⟩
     case round =>
      obtain ⟨k, mm, q, hk, hg, rfl, rfl, HMN, HM, HTB, HG, HB⟩ := hrel
      by_cases hlt : k < n
      ·have hltz : (k : Int) < (n : Int) := by omega
       have HCW : zAa (kC.C wr A n l) := ⟨by rw [← HN.out]; exact Kd.zBb HC.out.1 HB.out⟩
       obtain ⟨ad, A4, c4, rfl, p0, p1, p2, p3, p4, p5, p6, p7⟩ := PSplitCuts.at_T49 HCW.out (k : Int) (by omega) hltz
       simp only [Int.toNat_natCast] at p0 p1 p2 p3 p4 p5
       have hxk : l[k]? = some (PSplitCuts.zBd l k) := by
        unfold PSplitCuts.zBd
        rw [Int.toNat_natCast, List.getD_eq_getElem?_getD, List.getElem?_eq_getElem (by have := HN.out; omega)]
        rfl
       generalize PSplitCuts.zBd l (k : Int) = x at p0 p1 p2 p3 p4 p5 p6 p7 hxk
       have HX := zAa.mk hxk
       have HXO := zAa.mk (HOK.out x (List.mem_of_getElem? hxk))
       obtain ⟨lx, hlx⟩ : ∃ lx, x.f1.length = lx := ⟨_, rfl⟩
       have hset := set_any (okO w.heap.size M) (wr.alloc (.cells #[.string x.f0.f0, .string x.f0.f1, .string x.f0.f2, .int .u64 x.f0.f3, .slice A4 lx c4, .bool x.f2] 49)) w.heap.size a b ((l.take k).foldl putF []) (HTB.out.keep (zAb (Below.refl _ _) _)) (fun j hj => by
        have h1 := HM.out.lt
        have h2 := HTB.out.lt
        simp at hj
        exact ⟨by omega, by omega, by omega⟩) (foldl_put_ok _ _ .nil (fun y hy => HOK.out y (List.mem_of_mem_take hy))) (by
        have h9 := foldl_put_len (l.take k) []
        rw [List.length_take] at h9
        simp at h9
        omega) x HXO.out A4 c4 (Kd.zBb p7 (zAb (Below.refl _ _) _)) p6
       unfold cellV at hset
       rw [hlx] at hset p4
       have HSET := zAa.mk hset
       have t0 := (zAc HG.out 0).trans (rfl : _ = some (Value.pointer (some ⟨w.heap.size, 0, none⟩)))
       have hlt0 := zAj HG.out
       clear hset p6 p7 hxk hlx
       go_wp2_with fail
       refine HSET.out.mono ?_
       rintro e w6 ⟨rfl, htab, hbut⟩
       have HTB6 := zAa.mk htab
       have hXB := heap_alloc_new wr (.cells #[.string x.f0.f0, .string x.f0.f1, .string x.f0.f2, .int .u64 x.f0.f3, .slice A4 lx c4, .bool x.f2] 49)
       have hne13 : wr.heap.size ≠ w.heap.size := by have := HTB.out.lt; omega
       have HX6 : zAa (w6.heap[wr.heap.size]? = some (.cells #[.string x.f0.f0, .string x.f0.f1, .string x.f0.f2, .int .u64 x.f0.f3, .slice A4 lx c4, .bool x.f2] 49 (0, 0))) := ⟨(hbut.same _ hne13 (by simp)).trans hXB⟩
       have HM6 : zAa (MapAt w6 M mm) := ⟨(HM.out.keep (zAb (Below.refl _ _) _)).move (hbut.same _ (by have := HSZ.out; omega) (by have := HM.out.lt; simp; omega))⟩
       have HG6 : zAa (w6.heap[w.heap.size + 1]? = some (.cells #[.pointer (some ⟨w.heap.size, 0, none⟩)] 23 (0, 0))) := ⟨(hbut.same _ (by omega) (by simp; omega)).trans (zAi HG.out _)⟩
       have HB6 : zAa (Below w.heap.size w w6) := ⟨(zAb HB.out _).trans hbut.below⟩
       clear htab hbut hXB HSET p0 p1 p2 p3 p4 p5 t0 hlt0 HTB HM HG HB HCW
       generalize wr.heap.size = g13 at HX6 hne13 ⊢
       have x0 := (zAc HX6.out 0).trans (rfl : _ = some (Value.string x.f0.f0))
       have x1 := (zAc HX6.out 1).trans (rfl : _ = some (Value.string x.f0.f1))
       have x2 := (zAc HX6.out 2).trans (rfl : _ = some (Value.string x.f0.f2))
       have x3 := (zAc HX6.out 3).trans (rfl : _ = some (Value.int .u64 x.f0.f3))
       have hlx6 := zAj HX6.out
       go_upto_region 18 with fail
       have HB7 : zAa (Below w6.heap.size w6 (w6.alloc (.cells #[.string x.f0.f0, .string x.f0.f1, .string x.f0.f2, .int .u64 0] 46))) := ⟨zAb (Below.refl _ _) _⟩
       have hK7 := heap_alloc_new w6 (.cells #[.string x.f0.f0, .string x.f0.f1, .string x.f0.f2, .int .u64 0] 46)
       have HTB7 := zAa.mk (HTB6.out.keep HB7.out)
       have HM7 := zAa.mk (HM6.out.keep HB7.out)
       have HG7 := zAa.mk (zAf HG6.out HB7.out)
       have HBW7 : zAa (Below w.heap.size w (w6.alloc (.cells #[.string x.f0.f0, .string x.f0.f1, .string x.f0.f2, .int .u64 0] 46))) := ⟨HB6.out.trans (HB7.out.mono HB6.out.size)⟩
       have hne14 : w6.heap.size ≠ M := by have := HM6.out.lt; omega
       generalize w6.alloc (.cells #[.string x.f0.f0, .string x.f0.f1, .string x.f0.f2, .int .u64 0] 46) = w7 at HB7 hK7 HTB7 HM7 HG7 HBW7 ⊢
       clear HB7 HTB6 HM6 HG6 HB6 HX6 x0 x1 x2 x3 hlx6 hne13
       generalize w6.heap.size = g14 at hK7 hne14 ⊢
       have k0 := (zAc hK7 0).trans (rfl : _ = some (Value.string x.f0.f0))
       have k1 := (zAc hK7 1).trans (rfl : _ = some (Value.string x.f0.f1))
       have k2 := (zAc hK7 2).trans (rfl : _ = some (Value.string x.f0.f2))
       have k3 := (zAc hK7 3).trans (rfl : _ = some (Value.int .u64 0))
       have hlk := zAj hK7
       have HMN2 := zAa.mk (HMN.out.snoc x)
       have hgb : zAa (0 ≤ getI mm (col0 x.f0) ∧ getI mm (col0 x.f0) ≤ 100) := ⟨by
        rw [HMN.out.get]
        have h1 := colC_len x.f0 (l.take k)
        rw [List.length_take] at h1
        omega⟩
       have hqb : zAa (0 ≤ q ∧ q ≤ 100) := ⟨by
        have h1 := HMN.out.lo
        have h2 := HMN.out.hi
        rw [List.length_take] at h2
        omega⟩
       obtain ⟨v, hv⟩ : ∃ v, getI mm (col0 x.f0) = v := ⟨_, rfl⟩
       have HV := zAa.mk hv
       rw [hv] at HMN2 hgb
       have hMd : MapAt w7.drew M mm := HM7.out.keep (zAg (Below.refl _ _))
       have hz : ∀ W : World, (zeroValue 3).run Tryz.prog W = .ok (.int .i64 0) W := fun W => by kernel_rfl
       have l1 := hMd.lookup Tryz.underlying113 (hz _) (okK_col HXO.out)
       obtain ⟨st, ob, e2, hM8, hst⟩ := hMd.entry Tryz.underlying113 hz (okK_col HXO.out)
       obtain ⟨w8, hw8⟩ : ∃ w8, setBlock w7.drew M ob = w8 := ⟨_, rfl⟩
       have hM8b := hM8
       rw [hw8] at e2 hM8
       have l2 := hM8.lookup Tryz.underlying113 (hz _) (okK_col HXO.out)
       rw [getI_touch, hv] at l2
       rw [hv] at l1 e2
       obtain ⟨ob2, e4, hM9⟩ := hst w8 (v + 1) (by
        rw [← hw8]
        obtain ⟨es, clk, h1, _⟩ := hMd
        exact Go.ChangeMaps.heap_setBlock_same h1 _)
       have hMg : MapAt (setBlock w8 M ob2) M (setI mm (col0 x.f0) (v + 1)) := hM9
       obtain ⟨w9, hw9⟩ : ∃ w9, setBlock w8 M ob2 = w9 := ⟨_, rfl⟩
       rw [hw9] at e4 hMg
       have l3 := hMg.lookup Tryz.underlying113 (hz _) (okK_col HXO.out)
       rw [getI_set, if_pos rfl] at l3
       have hsame9 : ∀ j, j ≠ M → w9.heap[j]? = w7.heap[j]? := fun j hj => by
        rw [← hw9, ← hw8]
        unfold setBlock
        show ((w7.drew.heap.setIfInBounds M ob).setIfInBounds M ob2)[j]? = _
        rw [Array.getElem?_setIfInBounds_ne (fun e => hj e.symm), Array.getElem?_setIfInBounds_ne (fun e => hj e.symm)]
        rfl
       have hsz9 : w9.heap.size = w7.heap.size := by
        rw [← hw9, ← hw8, size_setBlock, size_setBlock]
        rfl
       have hM0 : w.heap.size ≤ M := by have := HSZ.out; omega
       have HB9 : zAa (Below w.heap.size w w9) := ⟨by
        rw [← hw9, ← hw8]
        exact below_setBlock (below_setBlock (zAg HBW7.out) hM0 _) hM0 _⟩
       have HM9 := zAa.mk hMg
       have HTB9 : zAa (TabAt (okO w.heap.size M) w9 w.heap.size a b (putF ((l.take k).foldl putF []) x)) := ⟨HTB7.out.step (fun j hj _ => hsame9 j hj.2.2) (hsame9 _ (by have := HSZ.out; omega))⟩
       have HG9 : zAa (w9.heap[w.heap.size + 1]? = some (.cells #[.pointer (some ⟨w.heap.size, 0, none⟩)] 23 (0, 0))) := ⟨(hsame9 _ (by have := HSZ.out; omega)).trans HG7.out⟩
       have hK8 : w8.heap[g14]? = some (.cells #[.string x.f0.f0, .string x.f0.f1, .string x.f0.f2, .int .u64 0] 46 (0, 0)) := by
        rw [← hw8]
        unfold setBlock
        show (w7.drew.heap.setIfInBounds M ob)[g14]? = _
        rw [Array.getElem?_setIfInBounds_ne (fun e => hne14 e.symm)]
        exact hK7
       have hK9 : w9.heap[g14]? = some (.cells #[.string x.f0.f0, .string x.f0.f1, .string x.f0.f2, .int .u64 0] 46 (0, 0)) := (hsame9 _ hne14).trans hK7
       have m0 := (zAc hK8 0).trans (rfl : _ = some (Value.string x.f0.f0))
       have m1 := (zAc hK8 1).trans (rfl : _ = some (Value.string x.f0.f1))
       have m2 := (zAc hK8 2).trans (rfl : _ = some (Value.string x.f0.f2))
       have m3 := (zAc hK8 3).trans (rfl : _ = some (Value.int .u64 0))
       have n0 := (zAc hK9 0).trans (rfl : _ = some (Value.string x.f0.f0))
       have n1 := (zAc hK9 1).trans (rfl : _ = some (Value.string x.f0.f1))
       have n2 := (zAc hK9 2).trans (rfl : _ = some (Value.string x.f0.f2))
       have n3 := (zAc hK9 3).trans (rfl : _ = some (Value.int .u64 0))
       have hl8 := zAj hK8
       have hl9 := zAj hK9
       have hvw : IntKind.i64.wrap (v + 1) = v + 1 := IntWalk.i64_in _ (by have := hgb.out; omega)
       simp only [keyV, col0] at l1 l2 l3 e2
       clear hst hMd hM8 hM8b hM9 hMg hsame9 hsz9 hw8 hw9 hK7 hK8 hK9 hz hv
       go_region_with (fail)
       all_goals (
        go_wp2_with fail
        go_roundg (n - (k + 1))
        case measure => omega
        case rel =>
         refine ⟨k + 1, setI mm (col0 x.f0) (v + 1), max q (v + 1), by omega, by omega, by go_num, rfl, ⟨?_⟩, HM9, ⟨?_⟩, HG9, HB9⟩
         ·rw [take_snoc HX.out]
          exact HMN2.out
         ·rw [take_foldl HX.out]
          exact HTB9.out)
      ·have hltz : ¬ (k : Int) < (n : Int) := by omega
       have hkn : k = n := by omega
       subst hkn
       have e1 : l.take k = l := List.take_of_length_le (by rw [HN.out]; exact Nat.le_refl _)
       rw [e1] at HMN HTB
       have HQ : zAa (4 < q ↔ manyB l = true) := ⟨HMN.out.big⟩
       have HTA : zAa (TabAt (okO w.heap.size M) wr w.heap.size a b (putAll l)) := HTB
       obtain ⟨t, h1, h2⟩ := HTB.out.ex
       obtain ⟨pt, hpt⟩ := zBc t
       have hlen := len_any _ t _ wr h2
       rw [hpt, List.length_map] at hlen
       rw [hpt] at h1
       have q2 := (zAc h1 2).trans (rfl : _ = some (Value.pointer pt))
       have hlp := zAj h1
       have t0 := (zAc HG.out 0).trans (rfl : _ = some (Value.pointer (some ⟨w.heap.size, 0, none⟩)))
       have hlt0 := zAj HG.out
       have HF : zAa (ofK a b l = if (putAll l).length ≠ k then 1 else if manyB l then 4 else if 32 < k then 9 else 0) := ⟨by
        unfold ofK
        rw [if_neg (by rw [HR.out]; simp), if_neg (by rw [HB1'.out]; simp), if_neg (by rw [HB2'.out]; simp), if_neg (by rw [HB3'.out]; simp), HN.out]⟩
       obtain ⟨L, hL⟩ : ∃ L, (putAll l).length = L := ⟨_, rfl⟩
       have hL' : (l.foldl putF []).length = L := hL
       rw [hL] at HF
       rw [hL'] at hlen
       have HLEN := zAa.mk hlen
       clear hlen hL hL' e1 HTB h1 h2 hpt HMN
       by_cases hLk : L = k
       ·have d1 : ((L : Int) == (k : Int)) = true := by rw [beq_iff_eq]; omega
        have d1' : ((L : Int) != (k : Int)) = false := by rw [bne_eq_false_iff_eq]; omega
        rcases Int.lt_or_le 4 q with h4 | h4
        ·have d2 : decide ((4 : Int) < q) = true := Cp.dt h4
         have HNO : zAa (ofK a b l = 4) := ⟨by rw [HF.out, if_neg (by simpa using hLk), if_pos (HQ.out.1 h4)]⟩
         clear HF hLk
         go_wp2_with fail
         refine HLEN.out.mono ?_
         rintro e W2 ⟨rfl, rfl⟩
         go_wp2_with fail
         go_ret2
         exact ofPost_no HNO.out (by decide) HB.out
        ·have d2 : decide ((4 : Int) < q) = false := Cp.df (by omega)
         have hm : manyB l = false := by
          cases hm : manyB l with
          | false => rfl
          | true => have := HQ.out.2 hm; omega
         rcases Nat.lt_or_ge 32 k with h5 | h5
         ·have d3 : decide ((32 : Int) < (k : Int)) = true := Cp.dt (by omega)
          have HNO : zAa (ofK a b l = 9) := ⟨by rw [HF.out, if_neg (by simpa using hLk), hm, if_neg (by simp), if_pos h5]⟩
          clear HF hLk hm
          go_wp2_with fail
          refine HLEN.out.mono ?_
          rintro e W2 ⟨rfl, rfl⟩
          go_wp2_with fail
          go_ret2
          exact ofPost_no HNO.out (by decide) HB.out
         ·have d3 : decide ((32 : Int) < (k : Int)) = false := Cp.df (by omega)
          have HNO : zAa (ofK a b l = 0) := ⟨by rw [HF.out, if_neg (by simpa using hLk), hm, if_neg (by simp), if_neg (by omega)]⟩
          clear HF hLk hm
          go_wp2_with fail
          refine HLEN.out.mono ?_
          rintro e W2 ⟨rfl, rfl⟩
          go_wp2_with fail
          go_ret2
          refine ⟨fun _ => ⟨w.heap.size, rfl, Nat.le_refl _, ⟨fun h => h.2 rfl, ?_⟩⟩, fun h => absurd HNO.out h, HB.out⟩
          obtain ⟨t', h1, h2⟩ := HTA.out.ex
          exact ⟨t', h1, h2.mono (fun j hj => ⟨hj.1, hj.2.1⟩)⟩
       ·have d1 : ((L : Int) == (k : Int)) = false := by rw [beq_eq_false_iff_ne]; omega
        have d1' : ((L : Int) != (k : Int)) = true := by rw [bne_iff_ne]; omega
        have HNO : zAa (ofK a b l = 1) := ⟨by rw [HF.out, if_pos hLk]⟩
        clear HF hLk
        go_wp2_with fail
        refine HLEN.out.mono ?_
        rintro e W2 ⟨rfl, rfl⟩
        go_wp2_with fail
        go_ret2
        exact ofPost_no HNO.out (by decide) HB.out
end Go.Proofs.YtpckachmleonlaaGreatDoor
end
section
set_option linter.unusedVariables false
set_option linter.unusedSimpArgs false
namespace Go.Proofs.YtpckachmleonlaaGreatDoor
open Go.RowKit Go.Proofs.YtpckachmleonlaaGreatDoorW.PrintWords
attribute [local go_sem high] eqK46
def opCs (o : OpM) (A1 : Option Addr) (c1 : Nat) (A2 : Option Addr) (c2 : Nat) (A3 : Option Addr) (c3 : Nat) : Array Value :=
 #[.int .i64 o.kind, .string o.k.f0, .string o.k.f1, .string o.k.f2, .int .u64 o.k.f3, .string o.to_, .slice A1 o.value.length c1, .slice A2 o.want.length c2, .bool o.has, .slice A3 o.sub.length c3]
theorem keyB_dec (a b : KeyM) : decide (a = b) = keyB a.f0 a.f1 a.f2 a.f3 b.f0 b.f1 b.f2 b.f3 := (keyB_eq a b).symm
set_option maxHeartbeats 4000000 in
set_option maxRecDepth 100000 in
theorem putpred (o : OpM) (A1 : Option Addr) (c1 : Nat) (A2 : Option Addr) (c2 : Nat) (A3 : Option Addr) (c3 : Nat) (g : Nat) (x : CellM) (V : Option Addr) (c : Nat) (W : World) (hg : W.heap[g]? = some (.cells (opCs o A1 c1 A2 c2 A3 c3) 56 (0, 0))) :
  Calls Tryz.prog 136 #[cellV x V c, .pointer (some ⟨g, 0, none⟩)] W fun e w' => e = .returned (.bool (decide (x.f0 = o.k))) ∧ Below W.heap.size W w' := by
 obtain ⟨_, q1, q2, q3, q4, _, _, _, _, _, hl⟩ := opBlk (o := o) hg
 rw [keyB_dec]
 unfold cellV
 obtain ⟨l4, hl4⟩ : ∃ l4, x.f1.length = l4 := ⟨_, rfl⟩
 rw [hl4]
 clear hg hl4
 go_enter Tryz.func136, Tryz.ntmps136
 go_wp2_with fail
 go_ret
 exact ⟨rfl, zAb (Below.refl _ _) _⟩
set_option maxHeartbeats 8000000 in
set_option maxRecDepth 100000 in
theorem put_any9 (ok : Nat → Prop) (w : World) (p : Nat) (a b : ByteArray) (cs : List CellM) (h : TabAt ok w p a b cs) (hok : ∀ k, w.heap.size ≤ k → ok k) (hcs : OkL cs) (hl : cs.length ≤ 32) (o : OpM) (hx : OkC ⟨o.k, o.value, false⟩) (m : Nat) (A1 : Option Addr) (c1 : Nat) (A2 : Option Addr) (c2 : Nat) (A3 : Option Addr) (c3 : Nat) (hat : OpAt m w o A1 c1 A2 c2 A3 c3) :
  Calls Tryz.prog 109 #[.pointer (some ⟨p, 0, none⟩), opV o A1 c1 A2 c2 A3 c3] w fun e w' => e = .returned (.int .i64 (putC o.k o.value cs).2) ∧ TabAt ok w' p a b (putC o.k o.value cs).1 ∧ But p w w' := by
 have hrow : o.k.f0.size ≤ 32 := okC_row hx
 have HLP := zAa.mk h.lt
 have HT0 := zAa.mk h
 have HX := zAa.mk (And.intro hx (And.intro hcs hl))
 have HOK := zAa.mk hok
 have HAT := zAa.mk hat
 have HCOL : zAa (∀ X, Below w.heap.size w X → Calls Tryz.prog 105 #[.pointer (some ⟨p, 0, none⟩), .agg #[.string o.k.f0, .string o.k.f1, .string o.k.f2, .int .u64 o.k.f3]] X fun e w' => ∃ A n c, e = .returned (.slice A n c) ∧ n = (colC o.k cs).length ∧ kC.C w' A n (colC o.k cs) ∧ n ≤ 32 ∧ Below X.heap.size X w') := ⟨fun X hX => (column_any ok X p a b cs (h.keep hX) hcs (by omega) o.k hrow).mono fun e w' h => by
  obtain ⟨v, rfl, hr, hb⟩ := h
  obtain ⟨A, c, rfl, _, h3⟩ := Kd.zGa hr
  exact ⟨A, _, c, rfl, rfl, h3, Nat.le_trans (colC_len _ _) hl, hb⟩⟩
 have HCOL2 : zAa (∀ X, TabAt ok X p a b (putF cs ⟨o.k, o.value, false⟩) → Calls Tryz.prog 105 #[.pointer (some ⟨p, 0, none⟩), .agg #[.string o.k.f0, .string o.k.f1, .string o.k.f2, .int .u64 o.k.f3]] X fun e w' => ∃ A n c, e = .returned (.slice A n c) ∧ n = (colC o.k (putF cs ⟨o.k, o.value, false⟩)).length ∧ kC.C w' A n (colC o.k (putF cs ⟨o.k, o.value, false⟩)) ∧ n ≤ 33 ∧ Below X.heap.size X w') := ⟨fun X hX => (column_any ok X p a b _ hX (hcs.put hx) (by have := putF_len cs ⟨o.k, o.value, false⟩; omega) o.k hrow).mono fun e w' h => by
  obtain ⟨v, rfl, hr, hb⟩ := h
  obtain ⟨A, c, rfl, _, h3⟩ := Kd.zGa hr
  exact ⟨A, _, c, rfl, rfl, h3, Nat.le_trans (colC_len _ _) (by have := putF_len cs ⟨o.k, o.value, false⟩; omega), hb⟩⟩
 have HLENC : zAa (∀ (X : World) (pt : Option Addr), (∃ t, ptrV t = .pointer pt ∧ zDk ok X t (cs.map zDb)) → Calls Tryz.prog 39 #[.pointer pt] X fun e w' => e = .returned (.int .i64 cs.length) ∧ w' = X) := ⟨fun X pt ⟨t, e, ht⟩ => by
  have h9 := len_any ok t _ X ht
  rw [e, List.length_map] at h9
  exact h9⟩
 have HSET : zAa (∀ X, Below w.heap.size w X → Calls Tryz.prog 78 #[.pointer (some ⟨p, 0, none⟩), .agg #[.string o.k.f0, .string o.k.f1, .string o.k.f2, .int .u64 o.k.f3, .slice A1 o.value.length c1, .bool false]] X fun e w' => e = .returned (.tuple #[]) ∧ TabAt ok w' p a b (putF cs ⟨o.k, o.value, false⟩) ∧ But p X w') := ⟨fun X hX => set_any ok X p a b cs (h.keep hX) (fun k hk => hok k (Nat.le_trans hX.size hk)) hcs (by omega) ⟨o.k, o.value, false⟩ hx A1 c1 (Kd.zBb hat.v.row hX) hat.v.c⟩
 have HTAB : zAa (∀ X, Below w.heap.size w X → ∃ pt : Option Addr, X.cell? ⟨p, 2, none⟩ = some (.pointer pt) ∧ p < X.heap.size ∧ ∃ t, ptrV t = .pointer pt ∧ zDk ok X t (cs.map zDb)) := ⟨fun X hX => by
  obtain ⟨t, h1, h2⟩ := (h.keep hX).ex
  obtain ⟨pt, hpt⟩ := zBc t
  rw [hpt] at h1
  exact ⟨pt, (zAc h1 2).trans rfl, zAj h1, t, hpt, h2⟩⟩
 have HB1 : zAa (Below w.heap.size w (w.alloc (.cells (opCs o A1 c1 A2 c2 A3 c3) 56))) := ⟨zAb (Below.refl _ _) _⟩
 have HG1 : zAa ((w.alloc (.cells (opCs o A1 c1 A2 c2 A3 c3) 56)).heap[w.heap.size]? = some (.cells (opCs o A1 c1 A2 c2 A3 c3) 56 (0, 0))) := ⟨heap_alloc_new _ _⟩
 have HLAST : zAa (∀ (X : World) (A : Option Addr) (n : Nat), 0 < n → n = (colC o.k (putF cs ⟨o.k, o.value, false⟩)).length → kC.C X A n (colC o.k (putF cs ⟨o.k, o.value, false⟩)) → TabAt ok X p a b (putF cs ⟨o.k, o.value, false⟩) → w.heap.size ≤ X.heap.size → ∃ ad V ln cv y0 y1 y2 y3 yg, A = some ad ∧ X.cell? (ad.add ((n - 1) * 6)) = some (.string y0) ∧ X.cell? ⟨(ad.add ((n - 1) * 6)).block, (ad.add ((n - 1) * 6)).off + 1, none⟩ = some (.string y1) ∧ X.cell? ⟨(ad.add ((n - 1) * 6)).block, (ad.add ((n - 1) * 6)).off + 2, none⟩ = some (.string y2) ∧ X.cell? ⟨(ad.add ((n - 1) * 6)).block, (ad.add ((n - 1) * 6)).off + 3, none⟩ = some (.int .u64 y3) ∧ X.cell? ⟨(ad.add ((n - 1) * 6)).block, (ad.add ((n - 1) * 6)).off + 4, none⟩ = some (.slice V ln cv) ∧ X.cell? ⟨(ad.add ((n - 1) * 6)).block, (ad.add ((n - 1) * 6)).off + 5, none⟩ = some (.bool yg) ∧
   Calls Tryz.prog 111 #[.pointer (some ⟨p, 0, none⟩), .agg #[.string y0, .string y1, .string y2, .int .u64 y3, .slice V ln cv, .bool yg]] X fun e w' => e = .returned (.tuple #[]) ∧ TabAt ok w' p a b (delF (putF cs ⟨o.k, o.value, false⟩) (lastK (colC o.k (putF cs ⟨o.k, o.value, false⟩)))) ∧ But p X w') := ⟨fun X A n h0 hn hC hT hXs => by
  have hcs1 := hcs.put hx
  have hl1 := putF_len cs ⟨o.k, o.value, false⟩
  obtain ⟨zs, e1, h1, h2⟩ := C_open hC
  obtain ⟨ad, y, rfl, hy, p0, p1, p2, p3, p4, p5⟩ := at_kH h1 (n - 1) (by omega)
  rw [List.getElem?_map, Option.map_eq_some_iff] at hy
  obtain ⟨z, hz, rfl⟩ := hy
  obtain ⟨k1, k2, k3⟩ := h2 z (List.mem_of_getElem? hz)
  have hzc : (colC o.k (putF cs ⟨o.k, o.value, false⟩))[n - 1]? = some z.2 := by rw [← e1, List.getElem?_map, hz]; rfl
  have hzm := (List.mem_filter.1 (List.mem_of_getElem? hzc)).1
  have hlk : lastK (colC o.k (putF cs ⟨o.k, o.value, false⟩)) = z.2.f0 := by
   unfold lastK
   rw [← hn, List.getD_eq_getElem?_getD, hzc]
   rfl
  have hd := drop_any ok X p a b _ hT (fun k hk => hok k (Nat.le_trans hXs hk)) hcs1 (by omega) z.2 (hcs1.ok _ hzm) ⟨z.2, hzm, rfl⟩ z.1.h.A z.1.h.c (by rw [← k3.n]; have := k3.row; rw [← k3.n] at this; exact this) (by have := k3.c; exact this)
  rw [hlk]
  refine ⟨ad, z.1.h.A, z.1.h.n, z.1.h.c, z.1.k.f0, z.1.k.f1, z.1.k.f2, z.1.k.f3, z.1.g, rfl, p0, p1, p2, p3, p4, p5, ?_⟩
  unfold cellV at hd
  rw [k1, k2, k3.n]
  exact hd⟩
 unfold opV
 clear h hok hcs hl hx hat hrow
 go_enter Tryz.func109, Tryz.ntmps109
 go_wp2_with fail
 refine (HCOL.out _ HB1.out).mono ?_
 rintro e w2 ⟨A, n, c, rfl, hn, hC, hn32, hb⟩
 have HB2 : zAa (Below w.heap.size w w2) := ⟨HB1.out.trans (hb.mono HB1.out.size)⟩
 have HG2 := zAa.mk (zAf HG1.out hb)
 have HC2 := zAa.mk (And.intro hn hC)
 clear hb hn hC HB1 HG1 HCOL
 have HCON := zAa.mk (contains_any 136 #[.pointer (some ⟨w.heap.size, 0, none⟩)] (enters_of Tryz.func136 (by kernel_rfl) rfl) (fun x => decide (x.f0 = o.k)) (colC o.k cs) A c w2 (by rw [← HC2.out.1]; exact HC2.out.2) (by have := HC2.out.1; omega) (fun W x V c hb => (putpred o A1 c1 A2 c2 A3 c3 w.heap.size x V c W (zAf HG2.out hb)).mono fun e w' h => ⟨h.1, hb.trans (h.2.mono hb.size)⟩))
 rw [← HC2.out.1] at HCON
 go_wp2_with fail
 refine HCON.out.mono ?_
 rintro e w3 ⟨rfl, hb⟩
 have HB3 : zAa (Below w.heap.size w w3) := ⟨HB2.out.trans (hb.mono HB2.out.size)⟩
 have HG3 := zAa.mk (zAf HG2.out hb)
 obtain ⟨q, hq⟩ : ∃ q, (colC o.k cs).any (fun x => decide (x.f0 = o.k)) = q := ⟨_, rfl⟩
 rw [hq]
 have HQ : zAa (hasK o.k (colC o.k cs) = q) := ⟨hq⟩
 have HN := zAa.mk HC2.out.1
 clear hb hq HCON HC2 HB2 HG2
 obtain ⟨pt, t2, hlt, htr⟩ := HTAB.out w3 HB3.out
 have HTR := zAa.mk htr
 obtain ⟨q0, q1, q2, q3, q4, q5, q6, q7, q8, q9, hlg⟩ := opBlk (o := o) HG3.out
 obtain ⟨N, hN⟩ : ∃ N, cs.length = N := ⟨_, rfl⟩
 have HNN := zAa.mk hN
 rw [hN] at HLENC
 have hN32 : N ≤ 32 := by have := HX.out.2.2; omega
 clear htr hN HTAB
 by_cases hfull : q = false ∧ n < 4 ∧ 32 ≤ N
 ·obtain ⟨rfl, h4, h32⟩ := hfull
  have HP : zAa (putC o.k o.value cs = (cs, 9)) := ⟨by unfold putC; rw [if_pos ⟨HQ.out, by rw [← HN.out]; exact h4, by rw [HNN.out]; exact h32⟩]⟩
  have z1 : decide ((n : Int) < 4) = true := Cp.dt (by omega)
  have z2 : decide ((32 : Int) ≤ (N : Int)) = true := Cp.dt (by omega)
  have z3 : (n : Int) < 4 := by omega
  have z4 : (32 : Int) ≤ (N : Int) := by omega
  go_wp2_with fail
  refine (HLENC.out w3 pt HTR.out).mono ?_
  rintro e w4 ⟨rfl, rfl⟩
  go_wp2_with fail
  go_ret
  exact ⟨by rw [HP.out]; rfl, by rw [HP.out]; exact HT0.out.keep HB3.out, But.of_below HB3.out (Nat.le_of_lt HLP.out)⟩
 have HP : zAa (putC o.k o.value cs = (if 4 < (colC o.k (putF cs ⟨o.k, o.value, false⟩)).length then delF (putF cs ⟨o.k, o.value, false⟩) (lastK (colC o.k (putF cs ⟨o.k, o.value, false⟩))) else putF cs ⟨o.k, o.value, false⟩, 0)) := ⟨by unfold putC; rw [if_neg (by rw [HQ.out, ← HN.out, HNN.out]; exact hfull)]⟩
 have hsp : q = true ∨ (q = false ∧ 4 ≤ n) ∨ (q = false ∧ n < 4 ∧ N < 32) := by
  cases q
  ·rcases Nat.lt_or_ge n 4 with h4 | h4
   ·exact .inr (.inr ⟨rfl, h4, by rcases Nat.lt_or_ge N 32 with h5 | h5; exact h5; exact absurd ⟨rfl, h4, h5⟩ hfull⟩)
   ·exact .inr (.inl ⟨rfl, h4⟩)
  ·exact .inl rfl
 clear hfull
 rcases hsp with rfl | ⟨rfl, h4⟩ | ⟨rfl, h4, h32⟩
 case' inl => go_wp2_with fail
 case' inr.inl =>
  have z1 : decide ((n : Int) < 4) = false := Cp.df (by omega)
  have z3 : ¬ (n : Int) < 4 := by omega
  clear h4
  go_wp2_with fail
 case' inr.inr =>
  have z1 : decide ((n : Int) < 4) = true := Cp.dt (by omega)
  have z2 : decide ((32 : Int) ≤ (N : Int)) = false := Cp.df (by omega)
  have z3 : (n : Int) < 4 := by omega
  have z4 : ¬ (32 : Int) ≤ (N : Int) := by omega
  clear h4 h32
  go_wp2_with fail
  refine (HLENC.out w3 pt HTR.out).mono ?_
  rintro e w4 ⟨rfl, e4⟩
  have e5 := e4.symm
  subst e5
  clear e4
  go_wp2_with fail
 all_goals (
  refine (HSET.out w3 HB3.out).mono ?_
  rintro e w4 ⟨rfl, ht4, hb4⟩
  have HT4 := zAa.mk ht4
  have HBT : zAa (But p w w4) := ⟨(But.of_below HB3.out (Nat.le_of_lt HLP.out)).trans hb4⟩
  have HG4 := zAa.mk ((hb4.same _ (Nat.ne_of_gt HLP.out) (zAj HG3.out)).trans HG3.out)
  clear ht4 hb4 HTR t2 hlt q0 q1 q2 q3 q4 q5 q6 q7 q8 q9 hlg HG3 HSET HLENC HN HNN HQ
  obtain ⟨q0, q1, q2, q3, q4, q5, q6, q7, q8, q9, hlg⟩ := opBlk (o := o) HG4.out
  go_wp2_with fail
  refine (HCOL2.out w4 HT4.out).mono ?_
  rintro e w5 ⟨A5, n5, c5, rfl, hn5, hC5, hn33, hb⟩
  have HN5 := zAa.mk hn5
  have HT5 := zAa.mk (HT4.out.keep hb)
  have HBT5 : zAa (But p w w5) := ⟨HBT.out.trans (But.of_below hb (Nat.le_of_lt HT4.out.lt))⟩
  by_cases h5 : 4 < n5
  ·obtain ⟨ad, V, ln, cv, y0, y1, y2, y3, yg, rfl, p0, p1, p2, p3, p4, p5, hcall⟩ := HLAST.out w5 A5 n5 (by omega) hn5 hC5 HT5.out HBT5.out.size
   have HCALL := zAa.mk hcall
   have d1 : decide ((4 : Int) < (n5 : Int)) = true := Cp.dt (by omega)
   have z0 : (4 : Int) < (n5 : Int) := by omega
   have z1 : ((n5 : Int) - 1).toNat = n5 - 1 := by omega
   have z2 : (0 : Int) ≤ (n5 : Int) - 1 := by omega
   have z3 : (n5 : Int) - 1 < n5 := by omega
   have HP5 : zAa (putC o.k o.value cs = (delF (putF cs ⟨o.k, o.value, false⟩) (lastK (colC o.k (putF cs ⟨o.k, o.value, false⟩))), 0)) := ⟨by rw [HP.out, if_pos (by rw [← HN5.out]; exact h5)]⟩
   clear hn5 hC5 hb hcall h5 HCOL2 HLAST HP
   go_wp2_with fail
   refine HCALL.out.mono ?_
   rintro e w6 ⟨rfl, ht6, hb6⟩
   have HT6 := zAa.mk ht6
   have HB6 := zAa.mk hb6
   clear ht6 hb6 HCALL
   go_wp2_with fail
   go_ret
   exact ⟨by rw [HP5.out]; rfl, by rw [HP5.out]; exact HT6.out, HBT5.out.trans HB6.out⟩
  ·have d1 : decide ((4 : Int) < (n5 : Int)) = false := Cp.df (by omega)
   have z0 : ¬ (4 : Int) < (n5 : Int) := by omega
   have HP5 : zAa (putC o.k o.value cs = (putF cs ⟨o.k, o.value, false⟩, 0)) := ⟨by rw [HP.out, if_neg (by rw [← HN5.out]; exact h5)]⟩
   clear hn5 hC5 hb h5 HCOL2 HLAST HP
   go_wp2_with fail
   go_ret
   exact ⟨by rw [HP5.out]; rfl, by rw [HP5.out]; exact HT5.out, HBT5.out⟩)
end Go.Proofs.YtpckachmleonlaaGreatDoor
end
