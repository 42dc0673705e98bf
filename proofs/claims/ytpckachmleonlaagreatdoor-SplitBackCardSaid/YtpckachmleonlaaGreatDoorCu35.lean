/- Words and walks for Split and Tablet: texts of these sessions, and of the kit's print, cut down to what is used (T3 U3). -/
import Derived.Test.YtpckachmleonlaaGreatDoorCu34
section
set_option linter.unusedVariables false
set_option linter.unusedSimpArgs false
namespace Go.Proofs.YtpckachmleonlaaGreatDoor
open Go.RowKit Go.Proofs.YtpckachmleonlaaGreatDoorW.PrintWords
def splitK (a b s : ByteArray) : Int := if s.size = 0 ∨ 32 < s.size then 1 else if ltS a s = false ∨ (b.size ≠ 0 ∧ ltS s b = false) then 8 else 0
def CutPost (a b s : ByteArray) (cs : List CellM) (w : World) (e : Ending) (w' : World) : Prop :=
  (splitK a b s = 0 → ∃ q r, e = .returned (.tuple #[.pointer (some ⟨q, 0, none⟩), .pointer (some ⟨r, 0, none⟩), .int .i64 0]) ∧ w.heap.size ≤ q ∧ w.heap.size ≤ r ∧ TabAt (fun k => w.heap.size ≤ k ∧ k ≠ q) w' q a s (loC s cs) ∧ TabAt (fun k => w.heap.size ≤ k ∧ k ≠ r) w' r s b (hiC s cs)) ∧
  (splitK a b s ≠ 0 → e = .returned (.tuple #[.pointer none, .pointer none, .int .i64 (splitK a b s)])) ∧ Below w.heap.size w w'
theorem cutPost_no {a b s : ByteArray} {cs : List CellM} {w w' : World} {i : Int} (h : splitK a b s = i) (hi : i ≠ 0) (hb : Below w.heap.size w w') : CutPost a b s cs w (.returned (.tuple #[.pointer none, .pointer none, .int .i64 i])) w' :=
  ⟨fun e => absurd (h.symm.trans e) hi, fun _ => by rw [h], hb⟩
theorem le_ltS (x y : ByteArray) : (Op.bytesLess x.toList y.toList || x.toList == y.toList) = !ltS y x := by
  rw [less_ltS]
  cases h : ltS y x with
  | true =>
    have h1 := ltS_asymm h
    have h2 : ¬ x.toList = y.toList := fun e => by
      have e2 := ba_eq.1 e
      subst e2
      rw [ltS_self] at h
      cases h
    rw [h1]
    simp [h2]
  | false =>
    rcases ltS_total h with e | h1
    · subst e
      simp
    · rw [h1]
      rfl
set_option maxHeartbeats 4000000 in
set_option maxRecDepth 100000 in
theorem split_tab (ok : Nat → Prop) (w : World) (p : Nat) (a b : ByteArray) (cs : List CellM) (h : TabAt ok w p a b cs) (ht : TabL a b cs) (s : ByteArray) :
    Calls Tryz.prog 17 #[.pointer (some ⟨p, 0, none⟩), .string s] w fun e w' => CutPost a b s cs w e w' := by
  have HB1 : zA (Below w.heap.size w ((w.alloc (.cells #[.pointer (some ⟨p, 0, none⟩)] 23)).alloc (.cells #[.string s] 9))) := ⟨zAa (zAa (Below.refl _ _) _) _⟩
  have HT1 : zA (TabAt ok ((w.alloc (.cells #[.pointer (some ⟨p, 0, none⟩)] 23)).alloc (.cells #[.string s] 9)) p a b cs) := ⟨h.keep HB1.out⟩
  have HG1 : zA (((w.alloc (.cells #[.pointer (some ⟨p, 0, none⟩)] 23)).alloc (.cells #[.string s] 9)).heap[w.heap.size]? = some (.cells #[.pointer (some ⟨p, 0, none⟩)] 23 (0, 0))) := ⟨zAh (heap_alloc_new _ _) _⟩
  have HS1 : zA (((w.alloc (.cells #[.pointer (some ⟨p, 0, none⟩)] 23)).alloc (.cells #[.string s] 9)).heap[w.heap.size + 1]? = some (.cells #[.string s] 9 (0, 0))) := ⟨Cp.blk_new2 _ _ _⟩
  have HTL := zA.mk ht
  have HBD := zA.mk (bounds_any ok _ p a b cs HT1.out)
  clear h ht
  go_enter Tryz.func17, Tryz.ntmps17
  go_wp2_with fail
  refine HBD.out.mono ?_
  rintro e w2 ⟨rfl, m, hm⟩
  have HB2 : zA (Below w.heap.size w w2) := ⟨by rw [hm]; exact zAc HB1.out _⟩
  have hw : Below ((w.alloc (.cells #[.pointer (some ⟨p, 0, none⟩)] 23)).alloc (.cells #[.string s] 9)).heap.size ((w.alloc (.cells #[.pointer (some ⟨p, 0, none⟩)] 23)).alloc (.cells #[.string s] 9)) w2 := by rw [hm]; exact zAc (Below.refl _ _) _
  have HT2 := zA.mk (HT1.out.keep hw)
  have HG2 := zA.mk (zAe HG1.out hw)
  have HS2 := zA.mk (zAe HS1.out hw)
  clear hm hw HB1 HT1 HG1 HS1 HBD
  have g0 := (zAb HG2.out 0).trans (rfl : _ = some (Value.pointer (some ⟨p, 0, none⟩)))
  have s0 := (zAb HS2.out 0).trans (rfl : _ = some (Value.string s))
  have hlg := zAi HG2.out
  have hls := zAi HS2.out
  rcases Bool.eq_false_or_eq_true s.toList.isEmpty with he | he
  · have HNO : zA (splitK a b s = 1) := ⟨by unfold splitK; rw [if_pos (.inl (Cp.size_zero he))]⟩
    go_wp2_with fail
    go_ret3
    exact cutPost_no HNO.out (by decide) HB2.out
  have HSZ : zA (1 ≤ s.size) := ⟨Cp.size_pos he⟩
  rcases Nat.lt_or_ge 32 s.size with h1 | h1
  · have HNO : zA (splitK a b s = 1) := ⟨by unfold splitK; rw [if_pos (.inr h1)]⟩
    have d1 : decide ((32 : Int) < (s.size : Int)) = true := Cp.dt (by omega)
    clear h1
    go_wp2_with fail
    go_ret3
    exact cutPost_no HNO.out (by decide) HB2.out
  have HS32 := zA.mk h1
  have d1 : decide ((32 : Int) < (s.size : Int)) = false := Cp.df (by omega)
  clear h1
  obtain ⟨x1, hx1⟩ : ∃ x, ltS a s = x := ⟨_, rfl⟩
  have l1 := le_ltS s a
  rw [hx1] at l1
  have HX1 := zA.mk hx1
  clear hx1
  cases x1
  · have HNO : zA (splitK a b s = 8) := ⟨by unfold splitK; rw [if_neg (by have := HSZ.out; have := HS32.out; omega), if_pos (.inl HX1.out)]⟩
    simp only [Bool.not_false] at l1
    go_wp2_with fail
    go_ret3
    exact cutPost_no HNO.out (by decide) HB2.out
  simp only [Bool.not_true] at l1
  rcases Bool.eq_false_or_eq_true b.toList.isEmpty with he2 | he2
  · have HK : zA (splitK a b s = 0) := ⟨by
      have h9 := Cp.size_zero he2
      unfold splitK
      rw [if_neg (by have := HSZ.out; have := HS32.out; omega), if_neg (by rw [HX1.out]; simp [h9])]⟩
    have HBS : zA (b.size = 0 ∨ ltS s b = true) := ⟨.inl (Cp.size_zero he2)⟩
    go_upto_region 11 with fail
    have HL : zA (TabL a s (loC s cs) ∧ TabL s b (hiC s cs)) := ⟨HTL.out.lo HX1.out HS32.out (by have := HSZ.out; omega), HTL.out.hi HBS.out HS32.out⟩
    have HP1 : zA (∀ X, Below w2.heap.size w2 X → Calls Tryz.prog 52 #[.string a, .string s, .bool true, .pointer (some ⟨w.heap.size, 0, none⟩), .pointer (some ⟨w.heap.size + 1, 0, none⟩)] X fun e w' => ∃ q, e = .returned (.pointer (some ⟨q, 0, none⟩)) ∧ X.heap.size ≤ q ∧ TabAt (fun k => X.heap.size ≤ k ∧ k ≠ q) w' q a s (loC s cs) ∧ Below X.heap.size X w') := ⟨fun X hX => by
      have h9 := part_any ok X p a b cs (HT2.out.keep hX) HTL.out.ok (by have := HTL.out.len; omega) a s s true w.heap.size (w.heap.size + 1) (zAe HG2.out hX) (zAe HS2.out hX) (by rw [side_lo]; exact HL.out.1.back.1)
      rw [side_lo] at h9
      exact h9⟩
    have HP2 : zA (∀ X, Below w2.heap.size w2 X → Calls Tryz.prog 52 #[.string s, .string b, .bool false, .pointer (some ⟨w.heap.size, 0, none⟩), .pointer (some ⟨w.heap.size + 1, 0, none⟩)] X fun e w' => ∃ q, e = .returned (.pointer (some ⟨q, 0, none⟩)) ∧ X.heap.size ≤ q ∧ TabAt (fun k => X.heap.size ≤ k ∧ k ≠ q) w' q s b (hiC s cs) ∧ Below X.heap.size X w') := ⟨fun X hX => by
      have h9 := part_any ok X p a b cs (HT2.out.keep hX) HTL.out.ok (by have := HTL.out.len; omega) s b s false w.heap.size (w.heap.size + 1) (zAe HG2.out hX) (zAe HS2.out hX) (by rw [side_hi]; exact HL.out.2.back.1)
      rw [side_hi] at h9
      exact h9⟩
    have HKEEP : zA (∀ X, Below w2.heap.size w2 X → X.cell? ⟨w.heap.size + 1, 0, none⟩ = some (.string s)) := ⟨fun X hX => (zAb (zAe HS2.out hX) 0).trans rfl⟩
    go_region_held3 (fun X => X.cell? ⟨w.heap.size + 1, 0, none⟩ = some (.string s)) (exact HKEEP.out _ (by with_reducible repeat (first | exact Below.refl _ _ | exact HB3.out | exact HB4.out | refine zAf ?_ | refine zAc ?_ _ | refine zAa ?_ _)))
      (first
        | (with_reducible refine (HP2.out _ (by with_reducible repeat (first | exact Below.refl _ _ | exact HB3.out | exact HB4.out | refine zAf ?_ | refine zAc ?_ _ | refine zAa ?_ _))).mono ?_; rintro e W4 ⟨r, rfl, hr1, hr2, hb4⟩; have HB4 := zA.mk (bl_to (w2 := w2) (by with_reducible repeat (first | exact Below.refl _ _ | exact HB3.out | exact HB4.out | refine zAf ?_ | refine zAc ?_ _ | refine zAa ?_ _)) hb4); have HR4 := zA.mk (And.intro hr1 hr2); have HBT := zA.mk (HQ3.out.2.keep (bl_to (w2 := W3) (by with_reducible repeat (first | exact Below.refl _ _ | refine zAf ?_ | refine zAc ?_ _ | refine zAa ?_ _)) hb4)); clear hr1 hr2 hb4)
        | (with_reducible refine (HP1.out _ (by with_reducible repeat (first | exact Below.refl _ _ | exact HB3.out | exact HB4.out | refine zAf ?_ | refine zAc ?_ _ | refine zAa ?_ _))).mono ?_; rintro e W3 ⟨q, rfl, hq1, hq2, hb3⟩; have HB3 := zA.mk (bl_to (w2 := w2) (by with_reducible repeat (first | exact Below.refl _ _ | exact HB3.out | exact HB4.out | refine zAf ?_ | refine zAc ?_ _ | refine zAa ?_ _)) hb3); have HQ3 := zA.mk (And.intro hq1 hq2); clear hq1 hq2 hb3)
        | fail)
    all_goals (
      go_wp2_with fail
      go_ret3
      have h9 : w2.heap.size ≤ q := HQ3.out.1
      have hs3 := HB3.out.size
      have hz2 := HB2.out.size
      refine ⟨fun _ => ⟨q, r, rfl, by omega, by have := HR4.out.1; omega, ?_, ?_⟩, fun h => absurd HK.out h, HB2.out.trans (HB4.out.mono HB2.out.size)⟩
      · obtain ⟨t', h1, h2⟩ := HBT.out.ex
        exact ⟨fun h => h.2 rfl, t', h1, h2.mono (fun k hk => ⟨Nat.le_trans hz2 hk.1, hk.2⟩)⟩
      · obtain ⟨t', h1, h2⟩ := HR4.out.2.ex
        exact ⟨fun h => h.2 rfl, t', h1, h2.mono (fun k hk => ⟨Nat.le_trans hz2 (Nat.le_trans hs3 hk.1), hk.2⟩)⟩)
  have HBZ : zA (b.size ≠ 0) := ⟨by have := Cp.size_pos he2; omega⟩
  obtain ⟨x2, hx2⟩ : ∃ x, ltS s b = x := ⟨_, rfl⟩
  have l2 := less_ltS s b
  rw [hx2] at l2
  have HX2 := zA.mk hx2
  clear hx2
  cases x2
  · have HNO : zA (splitK a b s = 8) := ⟨by unfold splitK; rw [if_neg (by have := HSZ.out; have := HS32.out; omega), if_pos (.inr ⟨HBZ.out, HX2.out⟩)]⟩
    go_wp2_with fail
    go_ret3
    exact cutPost_no HNO.out (by decide) HB2.out
  · have HK : zA (splitK a b s = 0) := ⟨by
      unfold splitK
      rw [if_neg (by have := HSZ.out; have := HS32.out; omega), if_neg (by rw [HX1.out, HX2.out]; simp)]⟩
    have HBS : zA (b.size = 0 ∨ ltS s b = true) := ⟨.inr HX2.out⟩
    go_upto_region 11 with fail
    have HL : zA (TabL a s (loC s cs) ∧ TabL s b (hiC s cs)) := ⟨HTL.out.lo HX1.out HS32.out (by have := HSZ.out; omega), HTL.out.hi HBS.out HS32.out⟩
    have HP1 : zA (∀ X, Below w2.heap.size w2 X → Calls Tryz.prog 52 #[.string a, .string s, .bool true, .pointer (some ⟨w.heap.size, 0, none⟩), .pointer (some ⟨w.heap.size + 1, 0, none⟩)] X fun e w' => ∃ q, e = .returned (.pointer (some ⟨q, 0, none⟩)) ∧ X.heap.size ≤ q ∧ TabAt (fun k => X.heap.size ≤ k ∧ k ≠ q) w' q a s (loC s cs) ∧ Below X.heap.size X w') := ⟨fun X hX => by
      have h9 := part_any ok X p a b cs (HT2.out.keep hX) HTL.out.ok (by have := HTL.out.len; omega) a s s true w.heap.size (w.heap.size + 1) (zAe HG2.out hX) (zAe HS2.out hX) (by rw [side_lo]; exact HL.out.1.back.1)
      rw [side_lo] at h9
      exact h9⟩
    have HP2 : zA (∀ X, Below w2.heap.size w2 X → Calls Tryz.prog 52 #[.string s, .string b, .bool false, .pointer (some ⟨w.heap.size, 0, none⟩), .pointer (some ⟨w.heap.size + 1, 0, none⟩)] X fun e w' => ∃ q, e = .returned (.pointer (some ⟨q, 0, none⟩)) ∧ X.heap.size ≤ q ∧ TabAt (fun k => X.heap.size ≤ k ∧ k ≠ q) w' q s b (hiC s cs) ∧ Below X.heap.size X w') := ⟨fun X hX => by
      have h9 := part_any ok X p a b cs (HT2.out.keep hX) HTL.out.ok (by have := HTL.out.len; omega) s b s false w.heap.size (w.heap.size + 1) (zAe HG2.out hX) (zAe HS2.out hX) (by rw [side_hi]; exact HL.out.2.back.1)
      rw [side_hi] at h9
      exact h9⟩
    have HKEEP : zA (∀ X, Below w2.heap.size w2 X → X.cell? ⟨w.heap.size + 1, 0, none⟩ = some (.string s)) := ⟨fun X hX => (zAb (zAe HS2.out hX) 0).trans rfl⟩
    go_region_held3 (fun X => X.cell? ⟨w.heap.size + 1, 0, none⟩ = some (.string s)) (exact HKEEP.out _ (by with_reducible repeat (first | exact Below.refl _ _ | exact HB3.out | exact HB4.out | refine zAf ?_ | refine zAc ?_ _ | refine zAa ?_ _)))
      (first
        | (with_reducible refine (HP2.out _ (by with_reducible repeat (first | exact Below.refl _ _ | exact HB3.out | exact HB4.out | refine zAf ?_ | refine zAc ?_ _ | refine zAa ?_ _))).mono ?_; rintro e W4 ⟨r, rfl, hr1, hr2, hb4⟩; have HB4 := zA.mk (bl_to (w2 := w2) (by with_reducible repeat (first | exact Below.refl _ _ | exact HB3.out | exact HB4.out | refine zAf ?_ | refine zAc ?_ _ | refine zAa ?_ _)) hb4); have HR4 := zA.mk (And.intro hr1 hr2); have HBT := zA.mk (HQ3.out.2.keep (bl_to (w2 := W3) (by with_reducible repeat (first | exact Below.refl _ _ | refine zAf ?_ | refine zAc ?_ _ | refine zAa ?_ _)) hb4)); clear hr1 hr2 hb4)
        | (with_reducible refine (HP1.out _ (by with_reducible repeat (first | exact Below.refl _ _ | exact HB3.out | exact HB4.out | refine zAf ?_ | refine zAc ?_ _ | refine zAa ?_ _))).mono ?_; rintro e W3 ⟨q, rfl, hq1, hq2, hb3⟩; have HB3 := zA.mk (bl_to (w2 := w2) (by with_reducible repeat (first | exact Below.refl _ _ | exact HB3.out | exact HB4.out | refine zAf ?_ | refine zAc ?_ _ | refine zAa ?_ _)) hb3); have HQ3 := zA.mk (And.intro hq1 hq2); clear hq1 hq2 hb3)
        | fail)
    all_goals (
      go_wp2_with fail
      go_ret3
      have h9 : w2.heap.size ≤ q := HQ3.out.1
      have hs3 := HB3.out.size
      have hz2 := HB2.out.size
      refine ⟨fun _ => ⟨q, r, rfl, by omega, by have := HR4.out.1; omega, ?_, ?_⟩, fun h => absurd HK.out h, HB2.out.trans (HB4.out.mono HB2.out.size)⟩
      · obtain ⟨t', h1, h2⟩ := HBT.out.ex
        exact ⟨fun h => h.2 rfl, t', h1, h2.mono (fun k hk => ⟨Nat.le_trans hz2 hk.1, hk.2⟩)⟩
      · obtain ⟨t', h1, h2⟩ := HR4.out.2.ex
        exact ⟨fun h => h.2 rfl, t', h1, h2.mono (fun k hk => ⟨Nat.le_trans hz2 (Nat.le_trans hs3 hk.1), hk.2⟩)⟩)
end Go.Proofs.YtpckachmleonlaaGreatDoor
end
section
set_option linter.unusedVariables false
set_option linter.unusedSimpArgs false
namespace Go.Proofs.YtpckachmleonlaaGreatDoor
open Go.RowKit Go.Proofs.YtpckachmleonlaaGreatDoorW.PrintWords
def stepS (acc : List ByteArray) (x : ByteArray) : List ByteArray := if acc.getLast? = some x then acc else acc ++ [x]
def compS (xs : List ByteArray) : List ByteArray := xs.foldl stepS []
theorem compS_snoc (xs : List ByteArray) (x : ByteArray) : compS (xs ++ [x]) = stepS (compS xs) x := by unfold compS; rw [List.foldl_append]; rfl
theorem stepS_last (acc : List ByteArray) (x : ByteArray) : (stepS acc x).getLast? = some x := by
 unfold stepS
 split
 ·rename_i h; exact h
 ·simp
theorem compS_last : ∀ xs : List ByteArray, (compS xs).getLast? = xs.getLast? := by
 intro xs
 rcases List.eq_nil_or_concat xs with rfl | ⟨ys, y, rfl⟩
 ·rfl
 ·rw [List.concat_eq_append, compS_snoc, stepS_last]
  simp
theorem compS_take {xs : List ByteArray} {k : Nat} {x : ByteArray} (h : xs[k]? = some x) : compS (xs.take (k + 1)) = if (xs.take k).getLast? = some x then compS (xs.take k) else compS (xs.take k) ++ [x] := by
 obtain ⟨hk, e⟩ := List.getElem?_eq_some_iff.1 h
 rw [List.take_succ_eq_append_getElem hk, e, compS_snoc]
 unfold stepS
 rw [compS_last]
theorem take_last {xs : List ByteArray} {k : Nat} {x : ByteArray} (h : xs[k]? = some x) : (xs.take (k + 1)).getLast? = some x := by
 obtain ⟨hk, e⟩ := List.getElem?_eq_some_iff.1 h
 rw [List.take_succ_eq_append_getElem hk, e]
 simp
theorem foldS_len : ∀ (xs acc : List ByteArray), (xs.foldl stepS acc).length ≤ acc.length + xs.length
 | [], acc => by simp
 | x :: xs, acc => by
  have h1 := foldS_len xs (stepS acc x)
  have h2 : (stepS acc x).length ≤ acc.length + 1 := by
   unfold stepS
   split
   ·omega
   ·rw [List.length_append, List.length_singleton]; omega
  rw [List.foldl_cons, List.length_cons]
  omega
theorem compS_len (xs : List ByteArray) : (compS xs).length ≤ xs.length := by
 have := foldS_len xs []
 unfold compS
 simpa using this
theorem info9 : (Tryz.prog.info? 9).map (fun i => (i.zero, i.size, i.bytes)) = some (some (.string ⟨#[]⟩), 1, 16) := by kernel_rfl
def zerosS (m : Nat) : List Value := (Builtin.zeroCells (Value.string ⟨#[]⟩).cells m).toList
theorem zerosS_len (m : Nat) : (zerosS m).length = m := by unfold zerosS; simp [Builtin.zeroCells, Value.cells]
theorem zerosS_one (m : Nat) : ∀ v ∈ zerosS m, v.oneCell' = true := by
 unfold zerosS Builtin.zeroCells
 intro v hv
 simp only [Array.toList_map, List.mem_map] at hv
 obtain ⟨i, _, rfl⟩ := hv
 have : i % 1 = 0 := Nat.mod_one i
 simp only [Value.cells, List.size_toArray, List.length_cons, List.length_nil]
 rw [this]
 rfl
theorem run_clearS (w : World) (ty : TypeId) (g off m c : Nat) (cur : List Value) (hg : w.heap[g]? = some (.cells cur.toArray 9 (0, 0))) (hfit : off + m ≤ cur.length) (hm : 0 < m) :
  (Builtin.clear_ #[97] ty #[.slice (some ⟨g, off, none⟩) m c]).run Tryz.prog w = .ok (.tuple #[]) (w.setCells g off (zerosS m)) := by
 obtain ⟨i0, hi, hz, _, _⟩ := info_parts info9
 have hst := run_storeCells_cells (P := Tryz.prog) g off (zerosS m) 0 w (fun j hj => by
   rw [cell_of_row w g _ _ 9 (0, 0) hg]
   rw [zerosS_len] at hj
   simp; omega) (fun j _ => zAd hg _) (zerosS_one m)
 simp only [Nat.add_zero] at hst
 obtain ⟨m, rfl⟩ : ∃ k, m = k + 1 := ⟨m - 1, by omega⟩
 simp [Builtin.clear_, run_underlying Tryz.underlying97, zeroValue, typeInfo, hi, hz]
 unfold zerosS at hst
 simp [hst]
 rfl
structure CompF (base g cap : Nat) (xs : List ByteArray) (w : World) (k j : Nat) (W : World) : Prop where
 k : k = (compS (xs.take j)).length
 ex : ∃ cur : List Value, W.heap[g]? = some (.cells cur.toArray 9 (0, 0)) ∧ cur.length = cap ∧ (∀ (t : Nat) x, (compS (xs.take j))[t]? = some x → cur[t]? = some (.string x)) ∧ ∀ (t : Nat) x, j ≤ t + 1 → xs[t]? = some x → cur[t]? = some (.string x)
 below : Below base w W
theorem CompF.skip {base g cap : Nat} {xs : List ByteArray} {w W : World} {k j : Nat} {x : ByteArray} (h : CompF base g cap xs w k j W) (hx : xs[j]? = some x) (hl : (xs.take j).getLast? = some x) : CompF base g cap xs w k (j + 1) W := by
 obtain ⟨cur, h1, h2, h3, h4⟩ := h.ex
 have e := compS_take hx
 rw [if_pos hl] at e
 exact ⟨by rw [e]; exact h.k, ⟨cur, h1, h2, by rw [e]; exact h3, fun t x ht => h4 t x (by omega)⟩, h.below⟩
theorem CompF.put {base g cap : Nat} {xs : List ByteArray} {w W : World} {k j : Nat} {x : ByteArray} (h : CompF base g cap xs w k j W) (hx : xs[j]? = some x) (hl : (xs.take j).getLast? ≠ some x) (hkj : k + 1 ≤ j) (hbg : base ≤ g) (hjc : j < cap) : CompF base g cap xs w (k + 1) (j + 1) (W.setCell ⟨g, k, none⟩ (.string x)) := by
 obtain ⟨cur, h1, h2, h3, h4⟩ := h.ex
 have e := compS_take hx
 rw [if_neg hl] at e
 have hs := zCf h1 k (.string x)
 refine ⟨by rw [e, List.length_append, ← h.k]; rfl, ⟨cur.set k (.string x), hs.trans (by simp), by rw [List.length_set]; exact h2, fun t y hy => ?_, fun t y ht hy => ?_⟩, h.below.setCell hbg _⟩
 ·rw [e] at hy
  rw [List.getElem?_set]
  by_cases htk : k = t
  ·subst htk
   rw [if_pos rfl, if_pos (by omega)]
   rw [List.getElem?_append_right (by rw [← h.k]; exact Nat.le_refl _), ← h.k] at hy
   simp at hy
   rw [hy]
  ·rw [if_neg htk]
   rcases Nat.lt_or_ge t k with h9 | h9
   ·rw [List.getElem?_append_left (by rw [← h.k]; exact h9)] at hy
    exact h3 t y hy
   ·rw [List.getElem?_append_right (by rw [← h.k]; omega), ← h.k, List.getElem?_eq_none (by simp; omega)] at hy
    cases hy
 ·rw [List.getElem?_set, if_neg (by omega)]
  exact h4 t y (by omega) hy
theorem compS_same {xs : List ByteArray} : ∀ k : Nat, k ≤ xs.length → (∀ j : Nat, j + 1 < k → xs[j + 1]? ≠ xs[j]?) → compS (xs.take k) = xs.take k
 | 0, _, _ => rfl
 | k + 1, hk, h => by
  have ih := compS_same k (by omega) (fun j hj => h j (by omega))
  have hx : xs[k]? = some (xs[k]'(by omega)) := List.getElem?_eq_getElem (by omega)
  rw [compS_take hx, ih, List.take_succ_eq_append_getElem (by omega)]
  rw [if_neg]
  cases k with
  | zero => simp
  | succ k =>
   have hx0 : xs[k]? = some (xs[k]'(by omega)) := List.getElem?_eq_getElem (by omega)
   rw [take_last hx0]
   intro e
   have h9 := h k (by omega)
   rw [hx, hx0] at h9
   exact h9 e.symm
theorem C_str {w : World} {g n : Nat} {xs : List ByteArray} {cur : List Value} (hg : w.heap[g]? = some (.cells cur.toArray 9 (0, 0))) (hn : n = xs.length) (hc : n ≤ 1000) (h : ∀ (t : Nat) x, xs[t]? = some x → cur[t]? = some (.string x)) : Kd.C Kd.string w (some ⟨g, 0, none⟩) n xs := by
 refine ⟨hn.symm, by omega, fun _ => ⟨_, rfl, fun j p hj => ⟨[.string p], rfl, rfl, fun i u hu => ?_⟩⟩⟩
 have hi : i = 0 := by
  have := (List.getElem?_eq_some_iff.1 hu).1
  simpa using this
 subst hi
 simp only [List.getElem?_cons_zero, Option.some.injEq] at hu
 subst hu
 rw [add_plain, zAb hg]
 have := h j p hj
 simpa [Kd.string, Kd.scalar] using this
theorem splice_get {α : Type} (L : List α) (off : Nat) (cs : List α) (h : off ≤ L.length) (t : Nat) (ht : t < off) : (splice L off cs)[t]? = L[t]? := by
 have e := Cp.splice_upto L off cs h
 have h1 : ((splice L off cs).take (off + cs.length))[t]? = (splice L off cs)[t]? := by rw [List.getElem?_take, if_pos (by omega)]
 rw [← h1, e, List.getElem?_append_left (by rw [List.length_take]; omega), List.getElem?_take, if_pos ht]
theorem CompF.fin {base g cap : Nat} {xs : List ByteArray} {w W : World} {k : Nat} (h : CompF base g cap xs w k xs.length W) (hk : k ≤ xs.length) (hc : xs.length ≤ cap) (hbg : base ≤ g) (hl : xs.length ≤ 1000) (zs : List Value) (hz : k + zs.length ≤ cap) : Kd.C Kd.string (W.setCells g k zs) (some ⟨g, 0, none⟩) k (compS xs) ∧ Below base w (W.setCells g k zs) ∧ k = (compS xs).length := by
 obtain ⟨cur, h1, h2, h3, h4⟩ := h.ex
 have e : xs.take xs.length = xs := List.take_length
 have hk2 := h.k
 rw [e] at h3 hk2
 refine ⟨C_str (Cp.zCk h1 (by omega)) hk2 (by omega) (fun t x hx => ?_), Cp.zCd h.below hbg, hk2⟩
 have ht : t < k := by rw [hk2]; exact (List.getElem?_eq_some_iff.1 hx).1
 rw [splice_get _ _ _ (by omega) _ ht]
 exact h3 t x hx
set_option maxHeartbeats 4000000 in
set_option maxRecDepth 100000 in
theorem compact_any (base : Nat) (xs : List ByteArray) (A : Option Addr) (n c : Nat) (w : World) (h : Kd.R Kd.string 9 w base (fun _ => True) (.slice A n c) xs) (hl : n ≤ 1000) (hb : base ≤ w.heap.size) :
  Calls Tryz.prog 57 #[.slice A n c] w fun e w' => ∃ A' n' c', e = .returned (.slice A' n' c') ∧ n' = (compS xs).length ∧ n' ≤ c' ∧ Kd.C Kd.string w' A' n' (compS xs) ∧ Below base w w' := by
 obtain ⟨hn, hnc, hC⟩ := Kd.zFc h
 have HC := zA.mk (And.intro hn (And.intro hnc hC))
 rcases Nat.lt_or_ge n 2 with h2 | h2
 ·have HE : zA (compS xs = xs) := ⟨by
   have h9 := compS_same (xs := xs) n (by omega) (fun j hj => by omega)
   rw [List.take_of_length_le (by omega)] at h9
   exact h9⟩
  have d1 : decide ((n : Int) < 2) = true := Cp.dt (by omega)
  clear h hn hC hb
  go_enter Tryz.func57, Tryz.ntmps57
  go_wp2_with fail
  go_ret
  exact ⟨A, n, c, rfl, by rw [HE.out]; exact HC.out.1, HC.out.2.1, by rw [HE.out]; exact HC.out.1 ▸ HC.out.2.2, Below.refl _ _⟩
 ·have d1 : decide ((n : Int) < 2) = false := Cp.df (by omega)
  obtain ⟨g, C, rfl, hg, hbg, _, hnc', hnC, hCj⟩ := own_block h (by omega)
  have HG := zA.mk (And.intro hg (And.intro hbg (And.intro hnC hCj)))
  have HN := zA.mk (And.intro hn hb)
  clear h hn hC hb hg hbg hnC hCj
  go_enter Tryz.func57, Tryz.ntmps57
  go_upto_region 4 with fail
  go_loopg [3, 4, 5] n (fun gg v3 v4 v5 wr => ∃ k : Nat, 1 ≤ k ∧ k ≤ n ∧ n - k ≤ gg ∧ v3 = .int .i64 k ∧ zA (∀ j : Nat, j + 1 < k → xs[j + 1]? ≠ xs[j]?) ∧ zA (wr.heap[g]? = some (.cells C 9 (0, 0)) ∧ Below base w wr))
  case atStart => exact ⟨1, Nat.le_refl _, by omega, by omega, rfl, ⟨fun j hj => by omega⟩, ⟨⟨HG.out.1, Below.refl _ _⟩⟩⟩
  case round =>
   obtain ⟨k, hk1, hk, hgk, rfl, HJ, HW⟩ := hrel
   have HGW := HW
   by_cases hlt : k < n
   ·have hltz : (k : Int) < (n : Int) := by omega
    obtain ⟨x, hx⟩ : ∃ x, xs[k]? = some x := ⟨xs[k]'(by have := HN.out.1; omega), List.getElem?_eq_getElem (by have := HN.out.1; omega)⟩
    obtain ⟨y, hy⟩ : ∃ y, xs[k - 1]? = some y := ⟨xs[k - 1]'(by have := HN.out.1; omega), List.getElem?_eq_getElem (by have := HN.out.1; omega)⟩
    have HXY := zA.mk (And.intro hx hy)
    have q0 : wr.cell? ⟨g, k, none⟩ = some (.string x) := (zAb HGW.out.1 k).trans (HG.out.2.2.2 k x hx)
    have q1 : wr.cell? ⟨g, k - 1, none⟩ = some (.string y) := (zAb HGW.out.1 (k - 1)).trans (HG.out.2.2.2 (k - 1) y hy)
    have hwr : IntKind.i64.wrap ((k : Int) - 1) = (k : Int) - 1 := IntWalk.i64_in _ (by omega)
    have hk0 : (0 : Int) ≤ (k : Int) - 1 := by omega
    have hk0' : (k : Int) - 1 < (n : Int) := by omega
    have htn : ((k : Int) - 1).toNat = k - 1 := by omega
    obtain ⟨b, hb⟩ : ∃ b, (x.toList == y.toList) = b := ⟨_, rfl⟩
    have HBX := zA.mk hb
    clear hx hy
    go_upto_region 6 with fail
    go_quiet (fail)
    have HG2 : zA ((wr.drewN nq).heap[g]? = some (.cells C 9 (0, 0)) ∧ Below base w (wr.drewN nq)) := ⟨HGW.out.1, HGW.out.2.trans ((zAc (Below.refl _ _) _).mono (Nat.le_trans HN.out.2 HGW.out.2.size))⟩
    generalize wr.drewN nq = w2 at HG2 ⊢
    clear q0 q1 HW HGW
    cases b
    case false =>
     go_wp2_with fail
     go_roundg (n - (k + 1))
     case measure => omega
     case rel =>
      refine ⟨k + 1, by omega, by omega, by omega, by go_num, ⟨fun j hj => ?_⟩, HG2⟩
      rcases Nat.lt_or_ge (j + 1) k with h9 | h9
      ·exact HJ.out j h9
      ·obtain rfl : k = j + 1 := by omega
       rw [HXY.out.1, show xs[j]? = some y from HXY.out.2]
       intro e
       cases e
       have h8 := HBX.out
       simp at h8
    case true =>
     have hxy : x = y := by
      have h8 := HBX.out
      rw [beq_iff_eq] at h8
      exact ba_eq.1 h8
     have HC1 : zA (CompF base g C.size xs w k (k + 1) w2) := ⟨by
      have e1 := compS_same (xs := xs) k (by have := HN.out.1; omega) HJ.out
      have e2 := compS_take HXY.out.1
      have e3 : (xs.take k).getLast? = some x := by
       obtain ⟨k', rfl⟩ : ∃ k', k = k' + 1 := ⟨k - 1, by omega⟩
       rw [take_last (show xs[k']? = some y from HXY.out.2), hxy]
      rw [if_pos e3, e1] at e2
      refine ⟨by rw [e2, List.length_take]; have := HN.out.1; omega, ⟨C.toList, by rw [Array.toArray_toList]; exact HG2.out.1, by simp, fun t z hz => ?_, fun t z _ hz => ?_⟩, HG2.out.2⟩
      ·rw [e2, List.getElem?_take] at hz
       split at hz
       ·rw [Array.getElem?_toList]; exact HG.out.2.2.2 t z hz
       ·cases hz
      ·rw [Array.getElem?_toList]; exact HG.out.2.2.2 t z hz⟩
     go_upto_region 9 with fail
     have hkn : k ≤ n := hk
     obtain ⟨m, hm⟩ : ∃ m, n - k = m := ⟨_, rfl⟩
     have HM := zA.mk hm
     rw [hm]
     have hmb : m ≤ 1000 := by omega
     have hknm : k + m ≤ 1000 := by omega
     clear hm
     go_loopg [3, 5] m (fun g2 v3 v5 W => ∃ kk j2 : Nat, 1 ≤ j2 ∧ j2 ≤ m ∧ m - j2 ≤ g2 ∧ v5 = .int .i64 j2 ∧ v3 = .int .i64 kk ∧ zA (kk + 1 ≤ k + j2) ∧ zA (CompF base g C.size xs w kk (k + j2) W))
     case atStart => exact ⟨k, 1, Nat.le_refl _, by have := HM.out; omega, by omega, rfl, rfl, ⟨by omega⟩, HC1⟩
     case round =>
      clear HG2 HC1
      obtain ⟨kk, j2, hj1, hj2, hgj, rfl, rfl, HKJ, HCF⟩ := hrel
      have hkb : kk ≤ 1000 := by have := HKJ.out; omega
      by_cases hlt2 : j2 < m
      ·have hltz2 : (j2 : Int) < (m : Int) := by omega
       obtain ⟨x', hx'⟩ : ∃ x', xs[k + j2]? = some x' := ⟨xs[k + j2]'(by have := HN.out.1; have := HM.out; omega), List.getElem?_eq_getElem (by have := HN.out.1; have := HM.out; omega)⟩
       obtain ⟨y', hy'⟩ : ∃ y', xs[k + (j2 - 1)]? = some y' := ⟨xs[k + (j2 - 1)]'(by have := HN.out.1; have := HM.out; omega), List.getElem?_eq_getElem (by have := HN.out.1; have := HM.out; omega)⟩
       have HXY2 := zA.mk (And.intro hx' hy')
       obtain ⟨cur, hc1, hc2, hc3, hc4⟩ := HCF.out.ex
       have q0 : wr.cell? ⟨g, k + j2, none⟩ = some (.string x') := (zAb hc1 (k + j2)).trans (by simpa using hc4 (k + j2) x' (by omega) hx')
       have q1 : wr.cell? ⟨g, k + (j2 - 1), none⟩ = some (.string y') := (zAb hc1 (k + (j2 - 1))).trans (by simpa using hc4 (k + (j2 - 1)) y' (by omega) hy')
       have HCUR := zA.mk (And.intro hc1 hc2)
       have hwr2 : IntKind.i64.wrap ((j2 : Int) - 1) = (j2 : Int) - 1 := IntWalk.i64_in _ (by have := HM.out; omega)
       have hj0 : (0 : Int) ≤ (j2 : Int) - 1 := by omega
       have hj0' : (j2 : Int) - 1 < (m : Int) := by omega
       have htn2 : ((j2 : Int) - 1).toNat = j2 - 1 := by omega
       obtain ⟨b2, hb2⟩ : ∃ b, (x'.toList == y'.toList) = b := ⟨_, rfl⟩
       have HB2 := zA.mk hb2
       have HLAST : zA ((xs.take (k + j2)).getLast? = some y') := ⟨by
        have h9 := take_last hy'
        rw [show k + (j2 - 1) + 1 = k + j2 by omega] at h9
        exact h9⟩
       clear hx' hy' hc1 hc2 hc3 hc4
       go_upto_region 11 with fail
       go_quiet (fail)
       have HQ2 : zA (CompF base g C.size xs w kk (k + j2) (wr.drewN nq)) := ⟨⟨HCF.out.k, HCF.out.ex, HCF.out.below.trans ((zAc (Below.refl _ _) _).mono (Nat.le_trans HN.out.2 HCF.out.below.size))⟩⟩
       have q2 : (wr.drewN nq).cell? ⟨g, k + j2, none⟩ = some (.string x') := q0
       have hcw : (wr.drewN nq).heap[g]? = some (.cells cur.toArray 9 (0, 0)) := HCUR.out.1
       have fkk := zAd hcw kk
       have hlg := zAi hcw
       obtain ⟨vkk, hvk⟩ : ∃ v, cur[kk]? = some v := ⟨cur[kk]'(by have := HCUR.out.2; have := HG.out.2.2.1; have := HKJ.out; have := HM.out; omega), List.getElem?_eq_getElem _⟩
       have q3 : (wr.drewN nq).cell? ⟨g, kk, none⟩ = some vkk := (zAb hcw kk).trans (by simpa using hvk)
       have hkkn : (kk : Int) < (n : Int) := by have := HKJ.out; have := HM.out; omega
       generalize wr.drewN nq = w4 at HQ2 q2 hcw fkk hlg q3 ⊢
       clear q0 q1 hcw hvk HCF HCUR
       cases b2
       case true =>
        have hxy2 : x' = y' := by
         have h8 := HB2.out
         rw [beq_iff_eq] at h8
         exact ba_eq.1 h8
        have HS : zA (CompF base g C.size xs w kk (k + j2 + 1) w4) := ⟨HQ2.out.skip HXY2.out.1 (by rw [hxy2]; exact HLAST.out)⟩
        clear hxy2
        go_wp2_with fail
        go_roundg (m - (j2 + 1))
        case measure => omega
        case rel => exact ⟨kk, j2 + 1, by omega, by omega, by omega, by go_num, rfl, ⟨by have := HKJ.out; omega⟩, HS⟩
       case false =>
        have HS : zA (CompF base g C.size xs w (kk + 1) (k + j2 + 1) (w4.setCell ⟨g, kk, none⟩ (.string x'))) := ⟨HQ2.out.put HXY2.out.1 (by
         rw [HLAST.out]
         intro e
         cases e
         have h8 := HB2.out
         simp at h8) HKJ.out HG.out.2.1 (by have := HG.out.2.2.1; have := HM.out; omega)⟩
        go_wp2_with fail
        go_roundg (m - (j2 + 1))
        case measure => omega
        case rel => exact ⟨kk + 1, j2 + 1, by omega, by omega, by omega, by go_num, by go_num, ⟨by have := HKJ.out; omega⟩, HS⟩
      ·have hltz2 : ¬ (j2 : Int) < (m : Int) := by omega
       have hj2m : m = j2 := by omega
       subst hj2m
       have HE : zA (CompF base g C.size xs w kk xs.length wr) := ⟨by
        have h9 := HCF.out
        rw [show k + m = xs.length by have := HM.out; have := HN.out.1; omega] at h9
        exact h9⟩
       obtain ⟨cur, hc1, hc2, _, _⟩ := HE.out.ex
       have hkk : kk + 1 ≤ n := by have := HKJ.out; have := HM.out; omega
       have hfit : kk + (n - kk) ≤ cur.length := by have := HG.out.2.2.1; omega
       have hfin := HE.out.fin (by have := HN.out.1; omega) (by have := HN.out.1; have := HG.out.2.2.1; omega) HG.out.2.1 (by have := HN.out.1; omega) (zerosS (n - kk)) (by rw [zerosS_len]; have := HG.out.2.2.1; omega)
       have HFIN := zA.mk hfin
       have HC1 := zA.mk (And.intro hc1 hfit)
       have hkkc : kk ≤ c := by omega
       have hkkc' : (kk : Int) ≤ (c : Int) := by omega
       have hkkn : (kk : Int) ≤ (n : Int) := by omega
       have hckk : ¬ (c = kk) := by omega
       clear hfin hc1 hfit HCF
       go_wp2_with (with_reducible refine wpList_clear_run wr rfl (.tmp 56) 97 rfl _ rfl (run_clearS wr _ g kk (n - kk) (c - kk) cur HC1.out.1 HC1.out.2 (by omega)) ?_)
       go_ret
       exact ⟨_, kk, c, rfl, HFIN.out.2.2, by omega, HFIN.out.1, HFIN.out.2.1⟩
   ·have hltz : ¬ (k : Int) < (n : Int) := by omega
    have hkn : n = k := by omega
    subst hkn
    have HE : zA (compS xs = xs) := ⟨by
     have h9 := compS_same (xs := xs) n (by have := HN.out.1; omega) HJ.out
     rw [List.take_of_length_le (by have := HN.out.1; omega)] at h9
     exact h9⟩
    go_wp2_with fail
    go_ret
    refine ⟨_, n, c, rfl, by rw [HE.out]; exact HN.out.1, by omega, ?_, HW.out.2⟩
    rw [HE.out]
    have h9 := C_str (cur := C.toList) (by rw [Array.toArray_toList]; exact HW.out.1) HN.out.1 hl (fun t x hx => by rw [Array.getElem?_toList]; exact HG.out.2.2.2 t x hx)
    exact h9
end Go.Proofs.YtpckachmleonlaaGreatDoor
end
