/- Words and walks for Split and Tablet: texts of these sessions, and of the kit's print, cut down to what is used (K3 Q3). -/
import Derived.Test.YtpckachmleonlaaGreatDoorCu27
import Derived.Test.YtpckachmleonlaaGreatDoorCu29
section
set_option linter.unusedVariables false
set_option linter.unusedSimpArgs false
namespace Go.Proofs.YtpckachmleonlaaGreatDoor
open Go.RowKit Go.Proofs.YtpckachmleonlaaGreatDoorW.PrintWords
open Go.ChangeMaps (setBlock heap_setBlock_same)
def OfPost (a b : ByteArray) (l : List CellM) (w : World) (e : Ending) (w' : World) : Prop :=
 (ofK a b l = 0 → ∃ p, e = .returned (.tuple #[.pointer (some ⟨p, 0, none⟩), .int .i64 0]) ∧ w.heap.size ≤ p ∧ TabAt (fun k => w.heap.size ≤ k ∧ k ≠ p) w' p a b (zDi l)) ∧
 (ofK a b l ≠ 0 → e = .returned (.tuple #[.pointer none, .int .i64 (ofK a b l)])) ∧ Below w.heap.size w w'
theorem okK_col {x : CellM} (h : OkC x) : OkK (col0 x.f0) := by
 have hk := of_decide_eq_true h.k
 unfold col0
 exact ⟨by unfold maxLen; simp only; omega, by unfold maxLen; simp only; omega, by unfold maxLen; simp only; omega, by simp only; decide⟩
theorem take_foldl {l : List CellM} {k : Nat} {x : CellM} (h : l[k]? = some x) : (l.take (k + 1)).foldl putF [] = putF ((l.take k).foldl putF []) x := by
 obtain ⟨hk, e⟩ := List.getElem?_eq_some_iff.1 h
 rw [List.take_succ_eq_append_getElem hk, List.foldl_append, e]
 rfl
theorem take_snoc {l : List CellM} {k : Nat} {x : CellM} (h : l[k]? = some x) : l.take (k + 1) = l.take k ++ [x] := by
 obtain ⟨hk, e⟩ := List.getElem?_eq_some_iff.1 h
 rw [List.take_succ_eq_append_getElem hk, e]
def okO (s m : Nat) (j : Nat) : Prop := s ≤ j ∧ j ≠ s ∧ j ≠ m
theorem ofPost_no {a b : ByteArray} {l : List CellM} {w w' : World} {i : Int} (h : ofK a b l = i) (hi : i ≠ 0) (hb : Below w.heap.size w w') : OfPost a b l w (.returned (.tuple #[.pointer none, .int .i64 i])) w' :=
 ⟨fun e => absurd (h.symm.trans e) hi, fun _ => by rw [h], hb⟩
set_option maxHeartbeats 4000000 in
set_option maxRecDepth 100000 in
theorem tof_any (a b : ByteArray) (l : List CellM) (A : Option Addr) (c : Nat) (w : World) (hC : kC.C w A l.length l) (hl : l.length ≤ 100) (ht : ∀ x ∈ l, TimeOk x) :
  Calls Tryz.prog 40 #[.string a, .string b, .slice A l.length c] w fun e w' => OfPost a b l w e w' := by
 have HC := zA.mk (And.intro hC hl)
 have HT := zA.mk ht
 obtain ⟨n, hn⟩ : ∃ n, l.length = n := ⟨_, rfl⟩
 have HN := zA.mk hn
 have hmm := fun w => run_makeMap (P := Tryz.prog) 113 w
 rw [hn] at hl ⊢
 cases hr : zFf a b with
 | false =>
  have HNO : zA (ofK a b l = 1) := ⟨by unfold ofK; rw [if_pos hr]⟩
  have HR := zA.mk hr
  clear hC hn ht hr
  go_enter Tryz.func40, Tryz.ntmps40
  go_wp2_with fail
  refine (new_bad a b w HR.out).mono ?_
  rintro e w2 ⟨rfl, rfl⟩
  go_wp2_with fail
  go_ret2
  exact ofPost_no HNO.out (by decide) (zAa (Below.refl _ _) _)
 | true =>
  have HR := zA.mk hr
  clear hC hn ht hr
  go_enter Tryz.func40, Tryz.ntmps40
  go_wp2_with fail
  refine (new_ok a b w HR.out).mono ?_
  rintro e w2 ⟨rfl, rfl⟩
  go_wp2_with fail
  have HB1 : zA (Below w.heap.size w ((w.alloc (.cells #[.string a, .string b, .pointer none] 103)).alloc (.cells #[.pointer (some ⟨w.heap.size, 0, none⟩)] 23))) := ⟨zAa (zAa (Below.refl _ _) _) _⟩
  have HP1 : zA (((w.alloc (.cells #[.string a, .string b, .pointer none] 103)).alloc (.cells #[.pointer (some ⟨w.heap.size, 0, none⟩)] 23)).heap[w.heap.size]? = some (.cells #[.string a, .string b, .pointer none] 103 (0, 0))) := ⟨zAh (heap_alloc_new _ _) _⟩
  have HG1 : zA (((w.alloc (.cells #[.string a, .string b, .pointer none] 103)).alloc (.cells #[.pointer (some ⟨w.heap.size, 0, none⟩)] 23)).heap[w.heap.size + 1]? = some (.cells #[.pointer (some ⟨w.heap.size, 0, none⟩)] 23 (0, 0))) := ⟨Cp.blk_new2 _ _ _⟩
  generalize (w.alloc (.cells #[.string a, .string b, .pointer none] 103)).alloc (.cells #[.pointer (some ⟨w.heap.size, 0, none⟩)] 23) = w1 at HB1 HP1 HG1 ⊢
  have hc1 := contains_any 73 #[] (enters_of Tryz.func73 (by kernel_rfl) rfl) (fun x => !zGb x) l A c w1 (Kd.zBa HC.out.1 HB1.out) (by have := HC.out.2; omega) (fun W x V c hb => (of1_any x V c W).mono fun e w' h => ⟨h.1, hb.trans (h.2.mono hb.size)⟩)
  rw [HN.out] at hc1
  cases hb1 : l.any (fun x => !zGb x) with
  | true =>
   have HNO : zA (ofK a b l = 5) := ⟨by unfold ofK; rw [if_neg (by rw [HR.out]; simp), if_pos hb1]⟩
   rw [hb1] at hc1
   refine hc1.mono ?_
   rintro e w2 ⟨rfl, hb⟩
   have HB2 : zA (Below w.heap.size w w2) := ⟨HB1.out.trans (hb.mono HB1.out.size)⟩
   clear hb hb1 hc1
   go_wp2_with fail
   go_ret2
   exact ofPost_no HNO.out (by decide) HB2.out
  | false =>
   rw [hb1] at hc1
   have HB1' := zA.mk hb1
   refine hc1.mono ?_
   rintro e w2 ⟨rfl, hb⟩
   have HB2 : zA (Below w.heap.size w w2) := ⟨HB1.out.trans (hb.mono HB1.out.size)⟩
   have HP2 := zA.mk (zAe HP1.out hb)
   have HG2 := zA.mk (zAe HG1.out hb)
   clear hb hb1 hc1 HP1 HG1
   go_wp2_with fail
   have hc2 := contains_any 75 #[.pointer (some ⟨w.heap.size + 1, 0, none⟩)] (enters_of Tryz.func75 (by kernel_rfl) rfl) (fun x => !insT a b x.f0.f0) l A c w2 (Kd.zBa HC.out.1 HB2.out) (by have := HC.out.2; omega) (fun W x V c hb => (of2_any w.heap.size a b (.pointer none) (w.heap.size + 1) x V c W (zAe HP2.out hb) (zAe HG2.out hb)).mono fun e w' h => ⟨h.1, hb.trans (h.2.mono hb.size)⟩)
   rw [HN.out] at hc2
   cases hb2 : l.any (fun x => !insT a b x.f0.f0) with
   | true =>
    have HNO : zA (ofK a b l = 8) := ⟨by unfold ofK; rw [if_neg (by rw [HR.out]; simp), if_neg (by rw [HB1'.out]; simp), if_pos hb2]⟩
    rw [hb2] at hc2
    refine hc2.mono ?_
    rintro e w3 ⟨rfl, hb⟩
    have HB3 : zA (Below w.heap.size w w3) := ⟨HB2.out.trans (hb.mono HB2.out.size)⟩
    clear hb hb2 hc2
    go_wp2_with fail
    go_ret2
    exact ofPost_no HNO.out (by decide) HB3.out
   | false =>
    rw [hb2] at hc2
    have HB2' := zA.mk hb2
    refine hc2.mono ?_
    rintro e w3 ⟨rfl, hb⟩
    have HB3 : zA (Below w.heap.size w w3) := ⟨HB2.out.trans (hb.mono HB2.out.size)⟩
    have HP3 := zA.mk (zAe HP2.out hb)
    have HG3 := zA.mk (zAe HG2.out hb)
    clear hb hb2 hc2 HP2 HG2
    go_wp2_with fail
    have hc3 := contains_any 77 #[] (enters_of Tryz.func77 (by kernel_rfl) rfl) (fun x => !zFj x) l A c w3 (Kd.zBa HC.out.1 HB3.out) (by have := HC.out.2; omega) (fun W x V c hb => (of3_any x V c W).mono fun e w' h => ⟨h.1, hb.trans (h.2.mono hb.size)⟩)
    rw [HN.out] at hc3
    cases hb3 : l.any (fun x => !zFj x) with
    | true =>
     have HNO : zA (ofK a b l = 1) := ⟨by unfold ofK; rw [if_neg (by rw [HR.out]; simp), if_neg (by rw [HB1'.out]; simp), if_neg (by rw [HB2'.out]; simp), if_pos hb3]⟩
     rw [hb3] at hc3
     refine hc3.mono ?_
     rintro e w4 ⟨rfl, hb⟩
     have HB4 : zA (Below w.heap.size w w4) := ⟨HB3.out.trans (hb.mono HB3.out.size)⟩
     clear hb hb3 hc3
     go_wp2_with fail
     go_ret2
     exact ofPost_no HNO.out (by decide) HB4.out
    | false =>
     rw [hb3] at hc3
     have HB3' := zA.mk hb3
     refine hc3.mono ?_
     rintro e w4 ⟨rfl, hb⟩
     have HB4 : zA (Below w.heap.size w w4) := ⟨HB3.out.trans (hb.mono HB3.out.size)⟩
     have HP4 := zA.mk (zAe HP3.out hb)
     have HG4 := zA.mk (zAe HG3.out hb)
     clear hb hb3 hc3 HP3 HG3
     go_upto_region 13 with fail
     have HOK : zA (∀ x ∈ l, OkC x) := ⟨fun x hx => by
      have h1 := List.any_eq_false.1 HB1'.out x hx
      have h3 := List.any_eq_false.1 HB3'.out x hx
      exact okC_of (by simpa using h1) (by simpa using h3) (HT.out x hx)⟩
     have HM5 : zA (MapAt (w4.alloc (.map #[] 0)) w4.heap.size []) := ⟨MapAt.made w4⟩
     have HB5 : zA (Below w4.heap.size w4 (w4.alloc (.map #[] 0))) := ⟨zAa (Below.refl _ _) _⟩
     have HP5 := zA.mk (zAe HP4.out HB5.out)
     have HG5 := zA.mk (zAe HG4.out HB5.out)
     have HBB : zA (Below w.heap.size w (w4.alloc (.map #[] 0))) := ⟨HB4.out.trans (HB5.out.mono HB4.out.size)⟩
     have HSZ : zA (w.heap.size + 1 < w4.heap.size) := ⟨zAi HG4.out⟩
     generalize w4.alloc (.map #[] 0) = w5 at HM5 HB5 HP5 HG5 HBB ⊢
     clear HB5
     generalize w4.heap.size = M at HM5 HSZ ⊢
     clear HB4 HP4 HG4
     go_loopg [11, 13, 14, 38] n (fun gg v11 v13 v14 v38 wr => ∃ (k : Nat) (mm : List (KeyM × Int)) (q : Int), k ≤ n ∧ n - k ≤ gg ∧ v38 = .int .i64 k ∧ v11 = .int .i64 q ∧ zA (Many (l.take k) mm q) ∧ zA (MapAt wr M mm) ∧ zA (TabAt (okO w.heap.size M) wr w.heap.size a b ((l.take k).foldl putF [])) ∧ zA (wr.heap[w.heap.size + 1]? = some (.cells #[.pointer (some ⟨w.heap.size, 0, none⟩)] 23 (0, 0))) ∧ zA (Below w.heap.size w wr))
     case atStart => exact ⟨0, [], 0, Nat.zero_le _, by omega, rfl, rfl, ⟨Many.nil⟩, HM5, ⟨⟨fun h => h.2.1 rfl, none, HP5.out, zFb.nil _ _⟩⟩, HG5, HBB⟩
     case round =>
      obtain ⟨k, mm, q, hk, hg, rfl, rfl, HMN, HM, HTB, HG, HB⟩ := hrel
      by_cases hlt : k < n
      ·have hltz : (k : Int) < (n : Int) := by omega
       have HCW : zA (kC.C wr A n l) := ⟨by rw [← HN.out]; exact Kd.zBa HC.out.1 HB.out⟩
       obtain ⟨ad, A4, c4, rfl, p0, p1, p2, p3, p4, p5, p6, p7⟩ := PSplitCuts.zGe HCW.out (k : Int) (by omega) hltz
       simp only [Int.toNat_natCast] at p0 p1 p2 p3 p4 p5
       have hxk : l[k]? = some (PSplitCuts.zBb l k) := by
        unfold PSplitCuts.zBb
        rw [Int.toNat_natCast, List.getD_eq_getElem?_getD, List.getElem?_eq_getElem (by have := HN.out; omega)]
        rfl
       generalize PSplitCuts.zBb l (k : Int) = x at p0 p1 p2 p3 p4 p5 p6 p7 hxk
       have HX := zA.mk hxk
       have HXO := zA.mk (HOK.out x (List.mem_of_getElem? hxk))
       obtain ⟨lx, hlx⟩ : ∃ lx, x.f1.length = lx := ⟨_, rfl⟩
       have hset := set_any (okO w.heap.size M) (wr.alloc (.cells #[.string x.f0.f0, .string x.f0.f1, .string x.f0.f2, .int .u64 x.f0.f3, .slice A4 lx c4, .bool x.f2] 49)) w.heap.size a b ((l.take k).foldl putF []) (HTB.out.keep (zAa (Below.refl _ _) _)) (fun j hj => by
        have h1 := HM.out.lt
        have h2 := HTB.out.lt
        simp at hj
        exact ⟨by omega, by omega, by omega⟩) (foldl_put_ok _ _ .nil (fun y hy => HOK.out y (List.mem_of_mem_take hy))) (by
        have h9 := foldl_put_len (l.take k) []
        rw [List.length_take] at h9
        simp at h9
        omega) x HXO.out A4 c4 (Kd.zBa p7 (zAa (Below.refl _ _) _)) p6
       unfold cellV at hset
       rw [hlx] at hset p4
       have HSET := zA.mk hset
       have t0 := (zAb HG.out 0).trans (rfl : _ = some (Value.pointer (some ⟨w.heap.size, 0, none⟩)))
       have hlt0 := zAi HG.out
       clear hset p6 p7 hxk hlx
       go_wp2_with fail
       refine HSET.out.mono ?_
       rintro e w6 ⟨rfl, htab, hbut⟩
       have HTB6 := zA.mk htab
       have hXB := heap_alloc_new wr (.cells #[.string x.f0.f0, .string x.f0.f1, .string x.f0.f2, .int .u64 x.f0.f3, .slice A4 lx c4, .bool x.f2] 49)
       have hne13 : wr.heap.size ≠ w.heap.size := by have := HTB.out.lt; omega
       have HX6 : zA (w6.heap[wr.heap.size]? = some (.cells #[.string x.f0.f0, .string x.f0.f1, .string x.f0.f2, .int .u64 x.f0.f3, .slice A4 lx c4, .bool x.f2] 49 (0, 0))) := ⟨(hbut.same _ hne13 (by simp)).trans hXB⟩
       have HM6 : zA (MapAt w6 M mm) := ⟨(HM.out.keep (zAa (Below.refl _ _) _)).move (hbut.same _ (by have := HSZ.out; omega) (by have := HM.out.lt; simp; omega))⟩
       have HG6 : zA (w6.heap[w.heap.size + 1]? = some (.cells #[.pointer (some ⟨w.heap.size, 0, none⟩)] 23 (0, 0))) := ⟨(hbut.same _ (by omega) (by simp; omega)).trans (zAh HG.out _)⟩
       have HB6 : zA (Below w.heap.size w w6) := ⟨(zAa HB.out _).trans hbut.below⟩
       clear htab hbut hXB HSET p0 p1 p2 p3 p4 p5 t0 hlt0 HTB HM HG HB HCW
       generalize wr.heap.size = g13 at HX6 hne13 ⊢
       have x0 := (zAb HX6.out 0).trans (rfl : _ = some (Value.string x.f0.f0))
       have x1 := (zAb HX6.out 1).trans (rfl : _ = some (Value.string x.f0.f1))
       have x2 := (zAb HX6.out 2).trans (rfl : _ = some (Value.string x.f0.f2))
       have x3 := (zAb HX6.out 3).trans (rfl : _ = some (Value.int .u64 x.f0.f3))
       have hlx6 := zAi HX6.out
       go_upto_region 18 with fail
       have HB7 : zA (Below w6.heap.size w6 (w6.alloc (.cells #[.string x.f0.f0, .string x.f0.f1, .string x.f0.f2, .int .u64 0] 46))) := ⟨zAa (Below.refl _ _) _⟩
       have hK7 := heap_alloc_new w6 (.cells #[.string x.f0.f0, .string x.f0.f1, .string x.f0.f2, .int .u64 0] 46)
       have HTB7 := zA.mk (HTB6.out.keep HB7.out)
       have HM7 := zA.mk (HM6.out.keep HB7.out)
       have HG7 := zA.mk (zAe HG6.out HB7.out)
       have HBW7 : zA (Below w.heap.size w (w6.alloc (.cells #[.string x.f0.f0, .string x.f0.f1, .string x.f0.f2, .int .u64 0] 46))) := ⟨HB6.out.trans (HB7.out.mono HB6.out.size)⟩
       have hne14 : w6.heap.size ≠ M := by have := HM6.out.lt; omega
       generalize w6.alloc (.cells #[.string x.f0.f0, .string x.f0.f1, .string x.f0.f2, .int .u64 0] 46) = w7 at HB7 hK7 HTB7 HM7 HG7 HBW7 ⊢
       clear HB7 HTB6 HM6 HG6 HB6 HX6 x0 x1 x2 x3 hlx6 hne13
       generalize w6.heap.size = g14 at hK7 hne14 ⊢
       have k0 := (zAb hK7 0).trans (rfl : _ = some (Value.string x.f0.f0))
       have k1 := (zAb hK7 1).trans (rfl : _ = some (Value.string x.f0.f1))
       have k2 := (zAb hK7 2).trans (rfl : _ = some (Value.string x.f0.f2))
       have k3 := (zAb hK7 3).trans (rfl : _ = some (Value.int .u64 0))
       have hlk := zAi hK7
       have HMN2 := zA.mk (HMN.out.snoc x)
       have hgb : zA (0 ≤ getI mm (col0 x.f0) ∧ getI mm (col0 x.f0) ≤ 100) := ⟨by
        rw [HMN.out.get]
        have h1 := colC_len x.f0 (l.take k)
        rw [List.length_take] at h1
        omega⟩
       have hqb : zA (0 ≤ q ∧ q ≤ 100) := ⟨by
        have h1 := HMN.out.lo
        have h2 := HMN.out.hi
        rw [List.length_take] at h2
        omega⟩
       obtain ⟨v, hv⟩ : ∃ v, getI mm (col0 x.f0) = v := ⟨_, rfl⟩
       have HV := zA.mk hv
       rw [hv] at HMN2 hgb
       have hMd : MapAt w7.drew M mm := HM7.out.keep (zAf (Below.refl _ _))
       have hz : ∀ W : World, (zeroValue 3).run Tryz.prog W = .ok (.int .i64 0) W := fun W => by kernel_rfl
       have l1 := hMd.lookup Tryz.underlying113 (hz _) (okK_col HXO.out)
       obtain ⟨st, ob, e2, hM8, hst⟩ := hMd.entry Tryz.underlying113 hz (okK_col HXO.out)
       obtain ⟨w8, hw8⟩ : ∃ w8, setBlock w7.drew M ob = w8 := ⟨_, rfl⟩
       have hM8b := hM8
       rw [hw8] at e2 hM8
       have l2 := hM8.lookup Tryz.underlying113 (hz _) (okK_col HXO.out)
       rw [getI_touch, hv] at l2
       rw [hv] at l1 e2
       obtain ⟨ob2, e4, hM9⟩ := hst w8 (v + 1) (by
        rw [← hw8]
        obtain ⟨es, clk, h1, _⟩ := hMd
        exact Go.ChangeMaps.heap_setBlock_same h1 _)
       have hMg : MapAt (setBlock w8 M ob2) M (setI mm (col0 x.f0) (v + 1)) := hM9
       obtain ⟨w9, hw9⟩ : ∃ w9, setBlock w8 M ob2 = w9 := ⟨_, rfl⟩
       rw [hw9] at e4 hMg
       have l3 := hMg.lookup Tryz.underlying113 (hz _) (okK_col HXO.out)
       rw [getI_set, if_pos rfl] at l3
       have hsame9 : ∀ j, j ≠ M → w9.heap[j]? = w7.heap[j]? := fun j hj => by
        rw [← hw9, ← hw8]
        unfold setBlock
        show ((w7.drew.heap.setIfInBounds M ob).setIfInBounds M ob2)[j]? = _
        rw [Array.getElem?_setIfInBounds_ne (fun e => hj e.symm), Array.getElem?_setIfInBounds_ne (fun e => hj e.symm)]
        rfl
       have hsz9 : w9.heap.size = w7.heap.size := by
        rw [← hw9, ← hw8, size_setBlock, size_setBlock]
        rfl
       have hM0 : w.heap.size ≤ M := by have := HSZ.out; omega
       have HB9 : zA (Below w.heap.size w w9) := ⟨by
        rw [← hw9, ← hw8]
        exact below_setBlock (below_setBlock (zAf HBW7.out) hM0 _) hM0 _⟩
       have HM9 := zA.mk hMg
       have HTB9 : zA (TabAt (okO w.heap.size M) w9 w.heap.size a b (putF ((l.take k).foldl putF []) x)) := ⟨HTB7.out.step (fun j hj _ => hsame9 j hj.2.2) (hsame9 _ (by have := HSZ.out; omega))⟩
       have HG9 : zA (w9.heap[w.heap.size + 1]? = some (.cells #[.pointer (some ⟨w.heap.size, 0, none⟩)] 23 (0, 0))) := ⟨(hsame9 _ (by have := HSZ.out; omega)).trans HG7.out⟩
       have hK8 : w8.heap[g14]? = some (.cells #[.string x.f0.f0, .string x.f0.f1, .string x.f0.f2, .int .u64 0] 46 (0, 0)) := by
        rw [← hw8]
        unfold setBlock
        show (w7.drew.heap.setIfInBounds M ob)[g14]? = _
        rw [Array.getElem?_setIfInBounds_ne (fun e => hne14 e.symm)]
        exact hK7
       have hK9 : w9.heap[g14]? = some (.cells #[.string x.f0.f0, .string x.f0.f1, .string x.f0.f2, .int .u64 0] 46 (0, 0)) := (hsame9 _ hne14).trans hK7
       have m0 := (zAb hK8 0).trans (rfl : _ = some (Value.string x.f0.f0))
       have m1 := (zAb hK8 1).trans (rfl : _ = some (Value.string x.f0.f1))
       have m2 := (zAb hK8 2).trans (rfl : _ = some (Value.string x.f0.f2))
       have m3 := (zAb hK8 3).trans (rfl : _ = some (Value.int .u64 0))
       have n0 := (zAb hK9 0).trans (rfl : _ = some (Value.string x.f0.f0))
       have n1 := (zAb hK9 1).trans (rfl : _ = some (Value.string x.f0.f1))
       have n2 := (zAb hK9 2).trans (rfl : _ = some (Value.string x.f0.f2))
       have n3 := (zAb hK9 3).trans (rfl : _ = some (Value.int .u64 0))
       have hl8 := zAi hK8
       have hl9 := zAi hK9
       have hvw : IntKind.i64.wrap (v + 1) = v + 1 := IntWalk.i64_in _ (by have := hgb.out; omega)
       simp only [keyV, col0] at l1 l2 l3 e2
       clear hst hMd hM8 hM8b hM9 hMg hsame9 hsz9 hw8 hw9 hK7 hK8 hK9 hz hv
       go_region_with (fail)
       all_goals (
        go_wp2_with fail
        go_roundg (n - (k + 1))
        case measure => omega
        case rel =>
         refine ⟨k + 1, setI mm (col0 x.f0) (v + 1), max q (v + 1), by omega, by omega, by go_num, rfl, ⟨?_⟩, HM9, ⟨?_⟩, HG9, HB9⟩
         ·rw [take_snoc HX.out]
          exact HMN2.out
         ·rw [take_foldl HX.out]
          exact HTB9.out)
      ·have hltz : ¬ (k : Int) < (n : Int) := by omega
       have hkn : k = n := by omega
       subst hkn
       have e1 : l.take k = l := List.take_of_length_le (by rw [HN.out]; exact Nat.le_refl _)
       rw [e1] at HMN HTB
       have HQ : zA (4 < q ↔ manyB l = true) := ⟨HMN.out.big⟩
       have HTA : zA (TabAt (okO w.heap.size M) wr w.heap.size a b (zDi l)) := HTB
       obtain ⟨t, h1, h2⟩ := HTB.out.ex
       obtain ⟨pt, hpt⟩ := zDa t
       have hlen := len_any _ t _ wr h2
       rw [hpt, List.length_map] at hlen
       rw [hpt] at h1
       have q2 := (zAb h1 2).trans (rfl : _ = some (Value.pointer pt))
       have hlp := zAi h1
       have t0 := (zAb HG.out 0).trans (rfl : _ = some (Value.pointer (some ⟨w.heap.size, 0, none⟩)))
       have hlt0 := zAi HG.out
       have HF : zA (ofK a b l = if (zDi l).length ≠ k then 1 else if manyB l then 4 else if 32 < k then 9 else 0) := ⟨by
        unfold ofK
        rw [if_neg (by rw [HR.out]; simp), if_neg (by rw [HB1'.out]; simp), if_neg (by rw [HB2'.out]; simp), if_neg (by rw [HB3'.out]; simp), HN.out]⟩
       obtain ⟨L, hL⟩ : ∃ L, (zDi l).length = L := ⟨_, rfl⟩
       have hL' : (l.foldl putF []).length = L := hL
       rw [hL] at HF
       rw [hL'] at hlen
       have HLEN := zA.mk hlen
       clear hlen hL hL' e1 HTB h1 h2 hpt HMN
       by_cases hLk : L = k
       ·have d1 : ((L : Int) == (k : Int)) = true := by rw [beq_iff_eq]; omega
        have d1' : ((L : Int) != (k : Int)) = false := by rw [bne_eq_false_iff_eq]; omega
        rcases Int.lt_or_le 4 q with h4 | h4
        ·have d2 : decide ((4 : Int) < q) = true := Cp.dt h4
         have HNO : zA (ofK a b l = 4) := ⟨by rw [HF.out, if_neg (by simpa using hLk), if_pos (HQ.out.1 h4)]⟩
         clear HF hLk
         go_wp2_with fail
         refine HLEN.out.mono ?_
         rintro e W2 ⟨rfl, rfl⟩
         go_wp2_with fail
         go_ret2
         exact ofPost_no HNO.out (by decide) HB.out
        ·have d2 : decide ((4 : Int) < q) = false := Cp.df (by omega)
         have hm : manyB l = false := by
          cases hm : manyB l with
          | false => rfl
          | true => have := HQ.out.2 hm; omega
         rcases Nat.lt_or_ge 32 k with h5 | h5
         ·have d3 : decide ((32 : Int) < (k : Int)) = true := Cp.dt (by omega)
          have HNO : zA (ofK a b l = 9) := ⟨by rw [HF.out, if_neg (by simpa using hLk), hm, if_neg (by simp), if_pos h5]⟩
          clear HF hLk hm
          go_wp2_with fail
          refine HLEN.out.mono ?_
          rintro e W2 ⟨rfl, rfl⟩
          go_wp2_with fail
          go_ret2
          exact ofPost_no HNO.out (by decide) HB.out
         ·have d3 : decide ((32 : Int) < (k : Int)) = false := Cp.df (by omega)
          have HNO : zA (ofK a b l = 0) := ⟨by rw [HF.out, if_neg (by simpa using hLk), hm, if_neg (by simp), if_neg (by omega)]⟩
          clear HF hLk hm
          go_wp2_with fail
          refine HLEN.out.mono ?_
          rintro e W2 ⟨rfl, rfl⟩
          go_wp2_with fail
          go_ret2
          refine ⟨fun _ => ⟨w.heap.size, rfl, Nat.le_refl _, ⟨fun h => h.2 rfl, ?_⟩⟩, fun h => absurd HNO.out h, HB.out⟩
          obtain ⟨t', h1, h2⟩ := HTA.out.ex
          exact ⟨t', h1, h2.mono (fun j hj => ⟨hj.1, hj.2.1⟩)⟩
       ·have d1 : ((L : Int) == (k : Int)) = false := by rw [beq_eq_false_iff_ne]; omega
        have d1' : ((L : Int) != (k : Int)) = true := by rw [bne_iff_ne]; omega
        have HNO : zA (ofK a b l = 1) := ⟨by rw [HF.out, if_pos hLk]⟩
        clear HF hLk
        go_wp2_with fail
        refine HLEN.out.mono ?_
        rintro e W2 ⟨rfl, rfl⟩
        go_wp2_with fail
        go_ret2
        exact ofPost_no HNO.out (by decide) HB.out
end Go.Proofs.YtpckachmleonlaaGreatDoor
end
section
set_option linter.unusedVariables false
set_option linter.unusedSimpArgs false
namespace Go.Proofs.YtpckachmleonlaaGreatDoor
open Go.RowKit Go.Proofs.YtpckachmleonlaaGreatDoorW.PrintWords
structure CAt (ok : Nat → Prop) (w : World) (A : Option Addr) (n c : Nat) (xs : List CellM) : Prop where
  len : n = xs.length
  cap : n ≤ c
  ex : ∃ zs : List (Ch × CellM), zs.map (·.2) = xs ∧ FF (fun W => kH.C W A n (zs.map (·.1))) ok w ∧ ∀ z ∈ zs, z.1.k = z.2.f0 ∧ z.1.g = z.2.f2 ∧ FF (fun W => BAt W z.1.h z.2.f1) ok w
theorem cell_heap {w W : World} {p : Addr} {v : Value} (h : w.cell? p = some v) (hb : W.heap[p.block]? = w.heap[p.block]?) : W.cell? p = some v := by
  unfold World.cell? at h ⊢
  rw [hb]
  exact h
theorem kH_FF {w : World} {A : Option Addr} {n : Nat} {hs : List Ch} (h : kH.C w A n hs) : FF (fun W => kH.C W A n hs) (fun k => k < w.heap.size) w := fun W hW => by
  obtain ⟨hn, hm, hr⟩ := h
  refine ⟨hn, hm, fun h0 => ?_⟩
  obtain ⟨ad, rfl, hc⟩ := hr h0
  refine ⟨ad, rfl, fun j p hj => ?_⟩
  obtain ⟨cs, h1, h2, h3⟩ := hc j p hj
  refine ⟨cs, h1, h2, fun i u hu => ?_⟩
  have h4 := h3 i u hu
  have h5 := World.block_lt_of_cell? w _ h4
  exact cell_heap h4 (hW _ h5 h5)
theorem BAt_lt {w : World} {h : Hd} {l : List Int} (b : BAt w h l) : FF (fun W => BAt W h l) (fun k => k < w.heap.size) w := fun W hW => b.heap (fun k hk => hW k hk hk)
section
variable {ok ok' : Nat → Prop} {w w' : World} {A : Option Addr} {n c : Nat} {xs : List CellM}
theorem CAt.of (h : kC.C w A n xs) (hn : n = xs.length) (hc : n ≤ c) : CAt (fun k => k < w.heap.size) w A n c xs := by
  obtain ⟨zs, h1, h2, h3⟩ := C_open h
  exact ⟨hn, hc, zs, h1, kH_FF h2, fun z hz => ⟨(h3 z hz).k, (h3 z hz).g, BAt_lt (h3 z hz).b⟩⟩
theorem CAt.now (h : CAt ok w A n c xs) : kC.C w A n xs := by
  obtain ⟨h1, h2, zs, rfl, h3, h4⟩ := h
  exact C_shut h3.now (fun z hz => ⟨(h4 z hz).1, (h4 z hz).2.1, (h4 z hz).2.2.now⟩)
theorem CAt.step (h : CAt ok w A n c xs) (hs : Same_ ok w w') : CAt ok w' A n c xs := by
  obtain ⟨h1, h2, zs, h5, h3, h4⟩ := h
  exact ⟨h1, h2, zs, h5, h3.step hs, fun z hz => ⟨(h4 z hz).1, (h4 z hz).2.1, (h4 z hz).2.2.step hs⟩⟩
theorem CAt.keep (h : CAt ok w A n c xs) (hb : Below w.heap.size w w') : CAt ok w' A n c xs := h.step (.of_below hb)
theorem CAt.mono (h : CAt ok w A n c xs) (hk : ∀ k, ok k → ok' k) : CAt ok' w A n c xs := by
  obtain ⟨h1, h2, zs, h5, h3, h4⟩ := h
  exact ⟨h1, h2, zs, h5, h3.mono hk, fun z hz => ⟨(h4 z hz).1, (h4 z hz).2.1, (h4 z hz).2.2.mono hk⟩⟩
theorem CAt.nil (ok : Nat → Prop) (w : World) : CAt ok w none 0 0 [] := ⟨rfl, Nat.le_refl _, [], rfl, fun W _ => ⟨rfl, Nat.zero_le _, fun h => absurd h (by simp)⟩, fun z hz => by cases hz⟩
theorem CAt.own {base : Nat} {ok2 : Nat → Prop} {zs : List (Ch × CellM)} (h : Kd.R kH 49 w' base ok2 (.slice A n c) (zs.map (·.1))) (hz : ∀ z ∈ zs, z.1.k = z.2.f0 ∧ z.1.g = z.2.f2 ∧ FF (fun W => BAt W z.1.h z.2.f1) ok w) (hb : Below w.heap.size w w') (hbase : w.heap.size ≤ base) (e : zs.map (·.2) = xs) : CAt (fun k => ok k ∨ w.heap.size ≤ k) w' A n c xs := by
  obtain ⟨h1, h2, h3⟩ := Kd.zFc h
  refine ⟨by rw [h1, List.length_map, ← e, List.length_map], by omega, zs, e, ?_, fun z hz' => ⟨(hz z hz').1, (hz z hz').2.1, ((hz z hz').2.2.keep hb).mono (fun k hk => .inl hk)⟩⟩
  exact ((R_FF h).imp fun W hW => hW.1).mono fun k hk => .inr (Nat.le_trans hbase hk)
end
end Go.Proofs.YtpckachmleonlaaGreatDoor
end
