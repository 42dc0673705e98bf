/- Words and walks for Split and Tablet: texts of these sessions, and of the kit's print, cut down to what is used (Q2 Ca Cb Cc). -/
import Derived.Test.YtpckachmleonlaaGreatDoorCut19
import Derived.Test.YtpckachmleonlaaGreatDoorProg
import Derived.WalkKit
import Derived.WalkSpells
import Derived.WalkLawsBesides
import Derived.Lib.Hide
import Derived.Deep.QuietTactic
import Derived.BigQuiet
import Derived.Deep.LoopGhost
import Derived.Deep.DeepCutAuto
import Derived.StillTailTactics
import Derived.IntWalk
import Derived.Lib.BytesEntry
import Derived.Laws.Externs
import Derived.Shelf.Bytes.SlCountOne
import Derived.Test.YtpckachmleonlaaGreatDoorCut1
import Derived.Lib.Overlaps
import Derived.Lib.AppendZerosOnto
import Derived.Laws.CopyOwn
import Derived.Laws.IdiomCopy
section
set_option linter.unusedVariables false
set_option linter.unusedSimpArgs false
namespace Go.Proofs.YtpckachmleonlaaGreatDoor
open Go.RowKit Go.Proofs.YtpckachmleonlaaGreatDoorW.PrintWords
set_option maxHeartbeats 1000000 in
theorem root_o (t o : Option Nat) (w : World) (h : (t = none ∧ o = none) ∨ ∃ b, t = some b ∧ w.heap[b]? = some (.cells #[ptrV o] 147 (0, 0))) : Calls Tryz.prog 70 #[ptrV t] w fun e w' => e = .returned (ptrV o) ∧ w' = w := by
  rcases h with ⟨rfl, rfl⟩ | ⟨b, rfl, h3⟩
  · change Calls Tryz.prog 70 #[.pointer none] w _
    go_enter Tryz.func70, Tryz.ntmps70
    go_wp2_with fail
    go_ret
    exact ⟨rfl, rfl⟩
  · obtain ⟨p, hpo⟩ := zDb o
    have hc : w.cell? ⟨b, 0, none⟩ = some (.pointer p) := by rw [← hpo]; exact (zAa h3 0).trans rfl
    have hlt := zBa h3
    have HPO := zA.mk hpo
    clear h3 hpo
    change Calls Tryz.prog 70 #[.pointer (some ⟨b, 0, none⟩)] w _
    go_enter Tryz.func70, Tryz.ntmps70
    go_wp2_with fail
    go_ret
    exact ⟨by rw [HPO.out]; rfl, rfl⟩
set_option maxHeartbeats 4000000 in
set_option maxRecDepth 100000 in
theorem items_any (ok : Nat → Prop) (t : Option Nat) (l : List It) (A B : Option Addr) (c d most : Nat) (lo hi : List Int) (w : World) (h : zFk ok w t l) (hi' : ItOk l) (hl : kB.C w A lo.length lo) (hh : kB.C w B hi.length hi) (hm : l.length ≤ most) (hm2 : most ≤ 1000) :
    Calls Tryz.prog 95 #[ptrV t, .slice A lo.length c, .slice B hi.length d, .int .i64 most] w fun e w' => ∃ v, e = .returned (.tuple #[v, .bool false]) ∧ Kd.R kI 129 w' w.heap.size (fun _ => True) v (filtI lo hi l) ∧ Below w.heap.size w w' := by
  have HH := zA.mk h
  have HI := zA.mk hi'
  have HL := zA.mk (And.intro hl hh)
  have HM := zA.mk (And.intro hm hm2)
  obtain ⟨pt, hpt⟩ := zDb t
  have HPT := zA.mk hpt
  rw [hpt]
  obtain ⟨nl, hnl⟩ : ∃ nl, lo.length = nl := ⟨_, rfl⟩
  obtain ⟨nh, hnh⟩ : ∃ nh, hi.length = nh := ⟨_, rfl⟩
  have HNL := zA.mk hnl
  have HNH := zA.mk hnh
  rw [hnl, hnh]
  clear h hi' hl hh hm hm2 hpt hnl hnh
  go_enter Tryz.func95, Tryz.ntmps95
  go_wp2_with fail
  obtain ⟨W0, hW0⟩ : ∃ W0, W0 = ((((w.alloc (.cells #[.slice A nl c] 47)).alloc (.cells #[.slice B nh d] 47)).alloc (.cells #[.int .i64 most] 3)).alloc (.cells #[.slice none 0 0] 88)).alloc (.cells #[.bool false] 4) := ⟨_, rfl⟩
  have hb0 : Below w.heap.size w W0 := by rw [hW0]; exact zAb (zAb (zAb (zAb (zAb (Below.refl _ _) _) _) _) _) _
  have hsz : w.heap.size = w.heap.toList.length := by simp
  have HV : zA (ItInv w lo hi most W0 []) := ⟨by
    rw [hW0]
    refine ⟨⟨zAb (zAb (zAb (zAb (zAb (Below.refl _ _) _) _) _) _) _, ⟨A, c, ?_, HL.out.1⟩, ⟨B, d, ?_, HL.out.2⟩, ?_, ?_⟩, .slice none 0 0, ?_, Kd.R_nil _ _ _ _ _⟩
    · rw [HNL.out]
      exact zAe (zAe (zAe (zAe (heap_alloc_new _ _) _) _) _) _
    · rw [HNH.out]
      exact zAe (zAe (zAe (hN3 w _ _) _) _) _
    · exact zAe (zAe (hM3 w _ _ _) _) _
    · have h9 := heap_alloc_new ((((w.alloc (.cells #[.slice A nl c] 47)).alloc (.cells #[.slice B nh d] 47)).alloc (.cells #[.int .i64 most] 3)).alloc (.cells #[.slice none 0 0] 88)) (.cells #[.bool false] 4)
      rw [World.size_alloc, World.size_alloc, World.size_alloc, World.size_alloc] at h9
      exact h9
    · refine zAe ?_ _
      have h9 := heap_alloc_new (((w.alloc (.cells #[.slice A nl c] 47)).alloc (.cells #[.slice B nh d] 47)).alloc (.cells #[.int .i64 most] 3)) (.cells #[.slice none 0 0] 88)
      rw [World.size_alloc, World.size_alloc, World.size_alloc] at h9
      exact h9⟩
  rw [← hW0]
  obtain ⟨o', hp', hcase⟩ := HH.out
  have hr := root_o t o' W0 (by
    rcases hcase with h9 | ⟨b, h9, _, h10⟩
    · exact .inl h9
    · exact .inr ⟨b, h9, zAi h10 hb0⟩)
  obtain ⟨po, hpo⟩ := zDb o'
  rw [HPT.out, hpo] at hr
  have HR := zA.mk hr
  have hwk := walk_any w lo hi most HM.out.2 (l.length + 1) o' l W0 [] (Nat.lt_succ_self _) (hp'.lt.mono (fun k hk => hk.2)) HI.out HV.out (by have := HM.out.1; simpa using this)
  rw [hpo, eachV, List.nil_append] at hwk
  have HWK := zA.mk hwk
  clear hW0 hb0 hsz hr hp' hwk hpo hcase
  obtain ⟨g, hg⟩ : ∃ g, w.heap.size = g := ⟨_, rfl⟩
  have HG := zA.mk hg
  rw [hg] at HWK ⊢
  clear hg
  go_wp2_with (go_at_call 70; refine HR.out.mono ?_; rintro e1 w1 ⟨rfl, hw⟩; have hw2 := hw.symm; subst hw2; clear hw)
  refine HWK.out.mono ?_
  rintro e2 W2 ⟨rfl, hI⟩
  obtain ⟨v, o1, o2⟩ := hI.o
  obtain ⟨Ao, co, eo⟩ := Kd.zBc o2
  subst eo
  have HI2 := zA.mk hI
  have hq := hI.q
  rw [HG.out] at o1 o2 hq
  have HO := zA.mk (And.intro o1 o2)
  have HQ := zA.mk hq
  obtain ⟨n, hn⟩ : ∃ n, (filtI lo hi l).length = n := ⟨_, rfl⟩
  have HN := zA.mk hn
  rw [hn] at o1 HO
  have c3 : W2.cell? ⟨g + 1 + 1 + 1, 0, none⟩ = some (.slice Ao n co) := (zAa o1 0).trans rfl
  have c4 : W2.cell? ⟨g + 1 + 1 + 1 + 1, 0, none⟩ = some (.bool false) := (zAa hq 0).trans rfl
  have f3 : W2.drew.frozen? ⟨g + 1 + 1 + 1, 0, none⟩ = false := zAd (w := W2.drew) o1 0
  have f4 : W2.drew.frozen? ⟨g + 1 + 1 + 1 + 1, 0, none⟩ = false := zAd (w := W2.drew) hq 0
  have f3' : W2.frozen? ⟨g + 1 + 1 + 1, 0, none⟩ = false := zAd (w := W2) o1 0
  have f4' : W2.frozen? ⟨g + 1 + 1 + 1 + 1, 0, none⟩ = false := zAd (w := W2) hq 0
  have l3 : g + 1 + 1 + 1 < W2.heap.size := zBa o1
  have l4 : g + 1 + 1 + 1 + 1 < W2.heap.size := zBa hq
  clear hI o1 o2 hq hn
  have hsame : ∀ (W : World), W.heap[g + 3]? = some (.cells #[.slice Ao n co] 88 (0, 0)) → W.heap[g + 4]? = some (.cells #[.bool false] 4 (0, 0)) → W.cell? ⟨g + 1 + 1 + 1, 0, none⟩ = some (.slice Ao n co) ∧ W.cell? ⟨g + 1 + 1 + 1 + 1, 0, none⟩ = some (.bool false) := fun W h1 h2 => ⟨(zAa h1 0).trans rfl, (zAa h2 0).trans rfl⟩
  have HSA := zA.mk hsame
  have hs3 : (W2.drew.setCell ⟨g + 1 + 1 + 1, 0, none⟩ (.slice Ao n co)).heap[g + 3]? = some (.cells #[.slice Ao n co] 88 (0, 0)) := (zCg (w := W2.drew) HO.out.1 0 _).trans rfl
  have hs34 : (W2.drew.setCell ⟨g + 1 + 1 + 1, 0, none⟩ (.slice Ao n co)).heap[g + 4]? = some (.cells #[.bool false] 4 (0, 0)) := zBd (w := W2.drew) HQ.out (by simp) _
  have hs4 : (W2.drew.setCell ⟨g + 1 + 1 + 1 + 1, 0, none⟩ (.bool false)).heap[g + 4]? = some (.cells #[.bool false] 4 (0, 0)) := (zCg (w := W2.drew) HQ.out 0 _).trans rfl
  have hs43 : (W2.drew.setCell ⟨g + 1 + 1 + 1 + 1, 0, none⟩ (.bool false)).heap[g + 3]? = some (.cells #[.slice Ao n co] 88 (0, 0)) := zBd (w := W2.drew) HO.out.1 (by simp) _
  have f34 : (W2.drew.setCell ⟨g + 1 + 1 + 1, 0, none⟩ (.slice Ao n co)).frozen? ⟨g + 1 + 1 + 1 + 1, 0, none⟩ = false := zAd hs34 0
  have f43 : (W2.drew.setCell ⟨g + 1 + 1 + 1 + 1, 0, none⟩ (.bool false)).frozen? ⟨g + 1 + 1 + 1, 0, none⟩ = false := zAd hs43 0
  have HS3 := zA.mk (And.intro hs3 hs34)
  have HS4 := zA.mk (And.intro hs4 hs43)
  have c34 := hsame _ hs3 hs34
  have c43 := hsame _ hs43 hs4
  obtain ⟨c34a, c34b⟩ := c34
  obtain ⟨c43a, c43b⟩ := c43
  clear hsame hs3 hs34 hs4 hs43
  go_upto_region 2 with fail
  go_region_held3 (fun w' => w'.cell? ⟨g + 1 + 1 + 1, 0, none⟩ = some (.slice Ao n co) ∧ w'.cell? ⟨g + 1 + 1 + 1 + 1, 0, none⟩ = some (.bool false))
    (first | exact ⟨c3, c4⟩ | exact HSA.out _ HS3.out.1 HS3.out.2 | exact HSA.out _ HS4.out.2 HS4.out.1 | exact HSA.out _ (zBd HS3.out.1 (by simp) _) ((zCg HS3.out.2 0 _).trans rfl) | exact HSA.out _ ((zCg HS4.out.2 0 _).trans rfl) (zBd HS4.out.1 (by simp) _))
    (first | fail)
  have z3 : ((W2.setCell ⟨g + 1 + 1 + 1, 0, none⟩ (.slice Ao n co)).setCell ⟨g + 1 + 1 + 1 + 1, 0, none⟩ (.bool false)).drew.heap[g + 3]? = some (.cells #[.slice Ao n co] 88 (0, 0)) := zBd (w := W2.drew.setCell ⟨g + 1 + 1 + 1, 0, none⟩ (.slice Ao n co)) HS3.out.1 (by simp) _
  have z4 : ((W2.setCell ⟨g + 1 + 1 + 1, 0, none⟩ (.slice Ao n co)).setCell ⟨g + 1 + 1 + 1 + 1, 0, none⟩ (.bool false)).drew.heap[g + 4]? = some (.cells #[.bool false] 4 (0, 0)) := (zCg (w := W2.drew.setCell ⟨g + 1 + 1 + 1, 0, none⟩ (.slice Ao n co)) HS3.out.2 0 _).trans rfl
  have HRF : zA (Kd.R kI 129 ((W2.setCell ⟨g + 1 + 1 + 1, 0, none⟩ (.slice Ao n co)).setCell ⟨g + 1 + 1 + 1 + 1, 0, none⟩ (.bool false)).drew g (fun _ => True) (.slice Ao n co) (filtI lo hi l)) := ⟨by
    have r0 := HO.out.2
    have r1 := Kd.R_set r0 HO.out.1 (by decide) 0 (.slice Ao n co)
    exact Kd.zDk (Kd.R_set r1 (zBd HQ.out (by simp) _) (by decide) 0 (.bool false))⟩
  have HBF : zA (Below w.heap.size w ((W2.setCell ⟨g + 1 + 1 + 1, 0, none⟩ (.slice Ao n co)).setCell ⟨g + 1 + 1 + 1 + 1, 0, none⟩ (.bool false)).drew) := ⟨zAk ((HI2.out.below.setCell (by rw [HG.out]; simp only; omega) _).setCell (by rw [HG.out]; simp only; omega) _)⟩
  have e3 := (zAa z3 0).trans (rfl : _ = some (Value.slice Ao n co))
  have e4 := (zAa z4 0).trans (rfl : _ = some (Value.bool false))
  clear z3 z4 c3 c4 f3 f4 f3' f4' l3 l4 f34 f43 c34a c34b c43a c43b
  generalize ((W2.setCell ⟨g + 1 + 1 + 1, 0, none⟩ (.slice Ao n co)).setCell ⟨g + 1 + 1 + 1 + 1, 0, none⟩ (.bool false)).drew = W3 at HRF HBF e3 e4 ⊢
  go_wp2_with fail
  exact bodyPost_ret (v := .tuple #[.slice Ao n co, .bool false]) (by simp [results, Tryz.results95, go_sem, e3, e4]) rfl ⟨_, rfl, by rw [HG.out]; exact HRF.out, HBF.out⟩
end Go.Proofs.YtpckachmleonlaaGreatDoor
end
section
set_option linter.unusedVariables false
set_option linter.unusedSimpArgs false
namespace Go.Proofs.YtpckachmleonlaaGreatDoor.Cp
open Go.RowKit Go.Proofs.YtpckachmleonlaaGreatDoorW.PrintWords
theorem dt {p : Prop} [Decidable p] (h : p) : decide p = true := decide_eq_true h
theorem df {p : Prop} [Decidable p] (h : ¬ p) : decide p = false := decide_eq_false h
def u8 (b : UInt8) : Value := .int .u8 (b.toNat : Int)
def BsAt (w : World) (b o : Nat) (bs : List UInt8) : Prop := ∀ i, i < bs.length → w.cell? ⟨b, o + i, none⟩ = some (.int .u8 ((bs.getD i 0).toNat : Int))
def nums (bs : List UInt8) : List Int := bs.map fun b => (b.toNat : Int)
theorem nums_length (bs : List UInt8) : (nums bs).length = bs.length := by simp [nums]
theorem bytesOf_nums (bs : List UInt8) : Lib.bytesOf (nums bs) = bs := by
  unfold Lib.bytesOf nums
  rw [List.map_map]
  conv => rhs; rw [← List.map_id bs]
  apply List.map_congr_left
  intro b _
  simp
theorem nums_getD (bs : List UInt8) (i : Nat) (h : i < bs.length) : (nums bs).getD i 0 = ((bs.getD i 0).toNat : Int) := by
  simp [nums, List.getD_eq_getElem?_getD, h]
theorem BsAt.nums {w : World} {b o : Nat} {bs : List UInt8} (h : BsAt w b o bs) : ∀ i, i < bs.length → w.cell? ⟨b, o + i, none⟩ = some (.int .u8 ((nums bs).getD i 0)) := fun i hi => by
  rw [nums_getD bs i hi]
  exact h i hi
set_option maxHeartbeats 1000000 in
set_option maxRecDepth 100000 in
theorem indexByte_any (b o n c : Nat) (bs : List UInt8) (v : UInt8) (w : World) (hn : bs.length = n) (h : BsAt w b o bs) :
    Calls Tryz.prog 184 #[.slice (some ⟨b, o, none⟩) n c, .int .u8 (v.toNat : Int)] w fun e w' => e = .returned (.int .i64 (Lib.indexByte bs v)) ∧ w' = w := by
  subst hn
  have hx := Lib.run_indexByteSlice (P := Tryz.prog) w b o bs.length c (nums bs) (nums_length bs) h.nums (v.toNat : Int)
  rw [bytesOf_nums] at hx
  have hv : ((v.toNat : Int)).toNat.toUInt8 = v := by simp
  rw [hv] at hx
  have HX := zA.mk hx
  clear hx h
  go_enter Tryz.func184, Tryz.ntmps184
  go_wp2
  rw [run_callFunc_extern Tryz.func190 (by kernel_rfl) (by kernel_rfl) (by kernel_rfl) (e := Extern.BytealgIndexByte.indexByte) (by kernel_rfl), HX.out]
  simp only [Result.andThen]
  rw [Oper.upon_value]
  go_wp2
  go_ret
  exact ⟨rfl, rfl⟩
set_option maxHeartbeats 1000000 in
set_option maxRecDepth 100000 in
theorem index1_any (b o n c sb : Nat) (bs : List UInt8) (v : UInt8) (w : World) (hn : bs.length = n) (h : BsAt w b o bs) (hs : BsAt w sb 0 [v]) :
    Calls Tryz.prog 178 #[.slice (some ⟨b, o, none⟩) n c, .slice (some ⟨sb, 0, none⟩) 1 1] w fun e w' => e = .returned (.int .i64 (Lib.indexByte bs v)) ∧ w' = w := by
  have H := zA.mk h
  have c0 : w.cell? ⟨sb, 0, none⟩ = some (.int .u8 (v.toNat : Int)) := hs 0 (by simp)
  clear h hs
  go_enter Tryz.func178, Tryz.ntmps178
  go_wp2_with (go_at_call 184; refine (indexByte_any b o n c bs v _ hn H.out).mono ?_; rintro e w' ⟨rfl, rfl⟩)
  go_ret
  exact ⟨rfl, rfl⟩
set_option maxHeartbeats 1000000 in
set_option maxRecDepth 100000 in
theorem count1_any (b o n c sb : Nat) (bs : List UInt8) (v : UInt8) (w : World) (hn : bs.length = n) (h : BsAt w b o bs) (hs : BsAt w sb 0 [v]) :
    Calls Tryz.prog 177 #[.slice (some ⟨b, o, none⟩) n c, .slice (some ⟨sb, 0, none⟩) 1 1] w fun e w' => e = .returned (.int .i64 (bs.count v)) ∧ w' = w := by
  subst hn
  have hx := Lib.run_countSlice (P := Tryz.prog) w b o bs.length c (nums bs) (nums_length bs) h.nums (v.toNat : Int)
  rw [bytesOf_nums] at hx
  have hv : ((v.toNat : Int)).toNat.toUInt8 = v := by simp
  rw [hv] at hx
  have HX := zA.mk hx
  have c0 : w.cell? ⟨sb, 0, none⟩ = some (.int .u8 (v.toNat : Int)) := hs 0 (by simp)
  clear hx h hs
  go_enter Tryz.func177, Tryz.ntmps177
  go_wp2
  rw [run_callFunc_extern Tryz.func183 (by kernel_rfl) (by kernel_rfl) (by kernel_rfl) (e := Extern.BytealgCount.count) (by kernel_rfl), HX.out]
  simp only [Result.andThen]
  rw [Oper.upon_value]
  go_wp2
  go_ret
  exact ⟨rfl, rfl⟩
end Go.Proofs.YtpckachmleonlaaGreatDoor.Cp
end
section
set_option linter.unusedVariables false
set_option linter.unusedSimpArgs false
namespace Go.Proofs.YtpckachmleonlaaGreatDoor.Cp
open Go.RowKit Go.Proofs.YtpckachmleonlaaGreatDoorW.PrintWords
section
variable {P : Program}
theorem zCe (w : World) (dT sT ty e : TypeId) (size : Nat) (hu : P.underlying dT = some (.slice e)) (hsz : (P.info? e).map (·.size) = some size)
    (g off dLen dCap : Nat) (ad : Addr) (sLen sCap : Nat) (cs cur : List Value) (t : TypeId) (hg : w.heap[g]? = some (.cells cur.toArray t (0, 0))) (hn : cs.length = Nat.min sLen dLen * size)
    (hsrc : ∀ j v, cs[j]? = some v → w.cell? (ad.add j) = some v) (hfit : off + cs.length ≤ cur.length) (h1 : ∀ v ∈ cs, v.oneCell' = true) :
    (Builtin.copy_ #[dT, sT] ty #[.slice (some ⟨g, off, none⟩) dLen dCap, .slice (some ad) sLen sCap]).run P w = .ok (goInt (Nat.min sLen dLen)) (w.setCells g off cs) := by
  obtain ⟨i0, hi, hs⟩ := Option.map_eq_some_iff.1 hsz
  have hc := run_firstCells_some (P := P) w i0.size (Nat.min sLen dLen) ad sLen sCap cs (by rw [hs]; exact hn) hsrc
  have hst := run_storeCells_cells (P := P) g off cs 0 w (fun j hj => by rw [cell_of_row w g _ _ t (0, 0) hg]; simp; omega) (fun j _ => zAd hg _) h1
  simp only [Nat.add_zero] at hst
  simp [Builtin.copy_, run_underlying hu, Builtin.lenOf, sizeOf, typeInfo, hi, hc, hst]
theorem run_copy_none_sized (w : World) (dT sT ty e : TypeId) (size : Nat) (hu : P.underlying dT = some (.slice e)) (hsz : (P.info? e).map (·.size) = some size)
    (dp : Option Addr) (dLen dCap : Nat) (sp : Option Addr) (sLen sCap : Nat) (h0 : Nat.min sLen dLen = 0) :
    (Builtin.copy_ #[dT, sT] ty #[.slice dp dLen dCap, .slice sp sLen sCap]).run P w = .ok (goInt 0) w := by
  obtain ⟨i0, hi, hs⟩ := Option.map_eq_some_iff.1 hsz
  have hc : (Builtin.firstCells i0.size 0 (.slice sp sLen sCap)).run P w = .ok #[] w := by
    cases sp with
    | none => simp [Builtin.firstCells]
    | some ad => exact run_firstCells_some (P := P) w i0.size 0 ad sLen sCap [] (by simp) (by simp)
  cases dp with
  | none => simp [Builtin.copy_, run_underlying hu, Builtin.lenOf, sizeOf, typeInfo, hi, h0, hc]
  | some a => simp [Builtin.copy_, run_underlying hu, Builtin.lenOf, sizeOf, typeInfo, hi, h0, hc, storeCells]
theorem wp_copy_run (w : World) {o : Oper} {a : Act} {K : Act → World → Prop} {Q : Exit → Act → World → Prop} (d s : Operand) (t t' : TypeId)
    (ho : o.op = .call { callee := .builtin .copy, args := #[d, s], argTypes := #[t, t'] }) (v u : Value) (hd : a.eval d = v) (hs : a.eval s = u) {v' : Value} {w' : World}
    (hr : (Builtin.copy_ #[t, t'] o.type #[v, u]).run P w = .ok v' w') (h : K (a.put o.dst v') w') : o.wp P a w K Q := by
  unfold Oper.wp execOp
  simp only [ho, resolve, invoke, builtin, Sem.run_bind, Sem.run_pure, Result.andThen_ok, List.map_toArray, List.map_cons, List.map_nil, hd, hs, hr]
  exact h
theorem wpList_copy_run (w : World) {ops : Array Oper} {rest : List Oper} {o : Oper} {a : Act} {Q : Exit → Act → World → Prop} (hgd : o.guard = none) (d s : Operand) (t t' : TypeId)
    (ho : o.op = .call { callee := .builtin .copy, args := #[d, s], argTypes := #[t, t'] }) (v u : Value) (hd : a.eval d = v) (hs : a.eval s = u) {v' : Value} {w' : World}
    (hr : (Builtin.copy_ #[t, t'] o.type #[v, u]).run P w = .ok v' w') (h : wpList P ops Q rest (a.put o.dst v') w') : wpList P ops Q (o :: rest) a w :=
  wpList_plain hgd fun _ hK => wp_copy_run w d s t t' ho v u hd hs hr (hK _ _ h)
end
theorem zD {w : World} {g off : Nat} {cs cur : List Value} {t : TypeId} (hg : w.heap[g]? = some (.cells cur.toArray t (0, 0))) (hfit : off + cs.length ≤ cur.length) :
    (w.setCells g off cs).heap[g]? = some (.cells (splice cur off cs).toArray t (0, 0)) := by
  obtain ⟨cur', h1, _, h3⟩ := setCells_row cs off w cur.toArray hg (by simpa using hfit)
  rw [h1]
  congr 2
  apply Array.ext'
  rw [h3]
  simp [splice]
theorem zCh {B : Nat} {w0 w : World} {g off : Nat} {cs : List Value} (hb : Below B w0 w) (hB : B ≤ g) : Below B w0 (w.setCells g off cs) := by
  obtain ⟨s1, s2, s3, s4⟩ := setCells_same g cs off w
  exact hb.trans ⟨s1, s2, s3, by rw [s4]; exact Nat.le_refl _, fun k hk => setCells_far cs off k (by omega)⟩
end Go.Proofs.YtpckachmleonlaaGreatDoor.Cp
end
section
set_option linter.unusedVariables false
set_option linter.unusedSimpArgs false
namespace Go.Proofs.YtpckachmleonlaaGreatDoor.Cp
open Go.RowKit Go.Proofs.YtpckachmleonlaaGreatDoorW.PrintWords
def rep : List UInt8 → List UInt8
  | [] => []
  | x :: r => (if x == 0 then [0, 255] else [x]) ++ rep r
theorem rep_append (a b : List UInt8) : rep (a ++ b) = rep a ++ rep b := by
  induction a with
  | nil => rfl
  | cons x a ih => simp only [List.cons_append, rep, ih, List.append_assoc]
theorem rep_length (a : List UInt8) : (rep a).length = a.length + a.count 0 := by
  induction a with
  | nil => rfl
  | cons x a ih =>
    simp only [rep, List.length_append, ih, List.length_cons, List.count_cons]
    rcases Bool.eq_false_or_eq_true (x == 0) with h | h
    · rw [h]; simp; omega
    · rw [h]; simp; omega
theorem rep_none {a : List UInt8} (h : a.count 0 = 0) : rep a = a := by
  induction a with
  | nil => rfl
  | cons x a ih =>
    rw [List.count_cons] at h
    rcases Bool.eq_false_or_eq_true (x == 0) with h2 | h2
    · rw [h2] at h; simp at h
    · rw [h2] at h
      simp only [rep, h2]
      rw [ih (by simpa using h)]
      rfl
theorem first_zero {a : List UInt8} (h : 0 < a.count 0) : ∃ pre post, a = pre ++ 0 :: post ∧ pre.count 0 = 0 ∧ Lib.indexByte a 0 = (pre.length : Int) := by
  induction a with
  | nil => simp at h
  | cons x a ih =>
    rw [List.count_cons] at h
    rcases Bool.eq_false_or_eq_true (x == 0) with h2 | h2
    · have hx := eq_of_beq h2
      subst hx
      exact ⟨[], a, rfl, rfl, by simp [Lib.indexByte]⟩
    · rw [h2] at h
      obtain ⟨pre, post, h3, h4, h5⟩ := ih (by simpa using h)
      refine ⟨x :: pre, post, by rw [h3]; rfl, by rw [List.count_cons, h2, h4]; rfl, ?_⟩
      have h6 : ((pre.length : Int) == -1) = false := by simp
      unfold Lib.indexByte
      rw [h2, h5, h6]
      simp
def cells (bs : List UInt8) : List Value := bs.map fun b => .int .u8 (b.toNat : Int)
theorem zDe (bs : List UInt8) : (cells bs).length = bs.length := by simp [cells]
theorem cells_append (a b : List UInt8) : cells (a ++ b) = cells a ++ cells b := by simp [cells]
theorem cells_one (bs : List UInt8) : ∀ u ∈ cells bs, u.oneCell' = true := by
  intro u hu
  obtain ⟨b, _, rfl⟩ := List.mem_map.1 hu
  rfl
theorem cells_get {bs : List UInt8} {i : Nat} (h : i < bs.length) : (cells bs)[i]? = some (.int .u8 ((bs.getD i 0).toNat : Int)) := by
  simp [cells, List.getD_eq_getElem?_getD, h]
theorem BsAt.cells {w : World} {b o : Nat} {bs : List UInt8} (h : BsAt w b o bs) : ∀ j u, (cells bs)[j]? = some u → w.cell? ⟨b, o + j, none⟩ = some u := by
  intro j u hu
  have hj : j < bs.length := by
    have := (List.getElem?_eq_some_iff.1 hu).1
    rwa [zDe] at this
  rw [cells_get hj] at hu
  rw [h j hj]
  exact hu
theorem BsAt.drop {w : World} {b o : Nat} {pre bs : List UInt8} (h : BsAt w b o (pre ++ bs)) : BsAt w b (o + pre.length) bs := by
  intro i hi
  have := h (pre.length + i) (by rw [List.length_append]; omega)
  rw [List.getD_eq_getElem?_getD, List.getElem?_append_right (by omega), Nat.add_sub_cancel_left, ← List.getD_eq_getElem?_getD, ← Nat.add_assoc] at this
  exact this
theorem BsAt.take {w : World} {b o : Nat} {pre bs : List UInt8} (h : BsAt w b o (pre ++ bs)) : BsAt w b o pre := by
  intro i hi
  have := h i (by rw [List.length_append]; omega)
  rw [List.getD_eq_getElem?_getD, List.getElem?_append_left hi, ← List.getD_eq_getElem?_getD] at this
  exact this
end Go.Proofs.YtpckachmleonlaaGreatDoor.Cp
end
