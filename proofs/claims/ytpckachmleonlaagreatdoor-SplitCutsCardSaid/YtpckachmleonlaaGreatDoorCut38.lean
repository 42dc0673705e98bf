/- Words and walks for Split and Tablet: texts of these sessions, and of the kit's print, cut down to what is used (S3 T3). -/
import Derived.Test.YtpckachmleonlaaGreatDoorCut34
import Derived.Test.YtpckachmleonlaaGreatDoorCut37
section
set_option linter.unusedVariables false
set_option linter.unusedSimpArgs false
namespace Go.Proofs.YtpckachmleonlaaGreatDoor
open Go.RowKit Go.Proofs.YtpckachmleonlaaGreatDoorW.PrintWords
set_option maxHeartbeats 4000000 in
set_option maxRecDepth 100000 in
theorem cut_any (s : ByteArray) (lower : Bool) (gs gl : Nat) (x : CellM) (V : Option Addr) (c : Nat) (W : World) (hs : W.heap[gs]? = some (.cells #[.string s] 9 (0, 0))) (hl : W.heap[gl]? = some (.cells #[.bool lower] 4 (0, 0))) :
    Calls Tryz.prog 54 #[cellV x V c, .pointer (some ⟨gs, 0, none⟩), .pointer (some ⟨gl, 0, none⟩)] W fun e w' => e = .returned (.bool (ltS x.f0.f0 s != lower)) ∧ Below W.heap.size W w' := by
  have c0 := (zAa hs 0).trans (rfl : _ = some (Value.string s))
  have c1 := (zAa hl 0).trans (rfl : _ = some (Value.bool lower))
  have h0 := zBa hs
  have h1 := zBa hl
  obtain ⟨b, hb⟩ : ∃ b, Op.bytesLess x.f0.f0.toList s.toList = b := ⟨_, rfl⟩
  have HB : zA (ltS x.f0.f0 s = b) := ⟨(less_ltS _ _).symm.trans hb⟩
  unfold cellV
  obtain ⟨l4, hl4⟩ : ∃ l4, x.f1.length = l4 := ⟨_, rfl⟩
  rw [hl4, HB.out]
  clear hl4 hs hl
  go_enter Tryz.func54, Tryz.ntmps54
  go_wp2_with fail
  go_ret
  exact ⟨by cases b <;> cases lower <;> rfl, zAb (Below.refl _ _) _⟩
def sideC (s : ByteArray) (lower : Bool) (cs : List CellM) : List CellM := cs.filter fun x => !(ltS x.f0.f0 s != lower)
theorem side_lo (s : ByteArray) (cs : List CellM) : sideC s true cs = loC s cs := by
  unfold sideC loC
  apply List.filter_congr
  intro x _
  cases ltS x.f0.f0 s <;> rfl
theorem side_hi (s : ByteArray) (cs : List CellM) : sideC s false cs = hiC s cs := by
  unfold sideC hiC
  apply List.filter_congr
  intro x _
  cases ltS x.f0.f0 s <;> rfl
theorem okC_time {x : CellM} (h : OkC x) : TimeOk x := ⟨h.t0, h.t1⟩
set_option maxHeartbeats 4000000 in
set_option maxRecDepth 100000 in
theorem part_any (ok : Nat → Prop) (w : World) (p : Nat) (a b : ByteArray) (cs : List CellM) (h : TabAt ok w p a b cs) (hcs : OkL cs) (hl : cs.length ≤ 100) (f t s : ByteArray) (lower : Bool) (gt ga : Nat) (ht : w.heap[gt]? = some (.cells #[.pointer (some ⟨p, 0, none⟩)] 23 (0, 0))) (ha : w.heap[ga]? = some (.cells #[.string s] 9 (0, 0))) (hz : ofK f t (sideC s lower cs) = 0) :
    Calls Tryz.prog 52 #[.string f, .string t, .bool lower, .pointer (some ⟨gt, 0, none⟩), .pointer (some ⟨ga, 0, none⟩)] w fun e w' => ∃ q, e = .returned (.pointer (some ⟨q, 0, none⟩)) ∧ w.heap.size ≤ q ∧ TabAt (fun k => w.heap.size ≤ k ∧ k ≠ q) w' q f t (sideC s lower cs) ∧ Below w.heap.size w w' := by
  have HH := zA.mk (And.intro hcs hl)
  have HZ := zA.mk hz
  have hall := all_any ok (w.alloc (.cells #[.bool lower] 4)) p a b cs (h.keep (zAb (Below.refl _ _) _)) hcs hl
  have HALL := zA.mk hall
  have HL1 : zA ((w.alloc (.cells #[.bool lower] 4)).heap[w.heap.size]? = some (.cells #[.bool lower] 4 (0, 0))) := ⟨heap_alloc_new _ _⟩
  have HA1 : zA ((w.alloc (.cells #[.bool lower] 4)).heap[ga]? = some (.cells #[.string s] 9 (0, 0))) := ⟨zAe ha _⟩
  have HB1 : zA (Below w.heap.size w (w.alloc (.cells #[.bool lower] 4))) := ⟨zAb (Below.refl _ _) _⟩
  have hS1 : (w.alloc (.cells #[.bool lower] 4)).heap.size = w.heap.size + 1 := by simp
  have HS1 := zA.mk hS1
  have t0 := (zAa ht 0).trans (rfl : _ = some (Value.pointer (some ⟨p, 0, none⟩)))
  have hlt := zBa ht
  have HGA : zA (ga < w.heap.size) := ⟨zBa ha⟩
  clear h hcs hl hz hall ht ha hS1
  go_enter Tryz.func52, Tryz.ntmps52
  go_wp2_with fail
  refine HALL.out.mono ?_
  rintro e w2 ⟨v, rfl, hr, hb⟩
  have HR2 := zA.mk hr
  have HL2 := zA.mk (zAi HL1.out hb)
  have HA2 := zA.mk (zAi HA1.out hb)
  have HB2 : zA (Below w.heap.size w w2) := ⟨HB1.out.trans (hb.mono HB1.out.size)⟩
  have HS2 : zA (w.heap.size + 1 ≤ w2.heap.size) := ⟨by have h9 := hb.size; rw [HS1.out] at h9; exact h9⟩
  obtain ⟨A2, c2, e2⟩ := Kd.zBc hr
  subst e2
  obtain ⟨n, hn⟩ : ∃ n, cs.length = n := ⟨_, rfl⟩
  have HN := zA.mk hn
  rw [hn] at HR2 ⊢
  clear hr hb hn HALL HL1 HA1 HB1 t0 hlt
  go_wp2_with fail
  have HR2' : zA (Kd.R kC 49 w2 (w.heap.size + 1) (fun _ => True) (.slice A2 n c2) cs) := ⟨by have h9 := HR2.out; rw [HS1.out] at h9; exact h9⟩
  have hdel := delf_any (w.heap.size + 1) 54 #[.pointer (some ⟨ga, 0, none⟩), .pointer (some ⟨w.heap.size, 0, none⟩)] (enters_of Tryz.func54 (by kernel_rfl) rfl) (fun x => ltS x.f0.f0 s != lower) cs A2 n c2 w2 HR2'.out (by have := HN.out; have := HH.out.2; omega) (fun g hg W x V c hs => by
      have h8 := Kd.R_base HR2'.out g hg
      have hne : w.heap.size ≠ g := by omega
      have hne2 : ga ≠ g := by have := HGA.out; omega
      exact cut_any s lower ga w.heap.size x V c W ((hs _ hne2 (zBa HA2.out)).trans HA2.out) ((hs _ hne (zBa HL2.out)).trans HL2.out)) HS2.out (fun _ W x V c hb => (cut_any s lower ga w.heap.size x V c W (zAi HA2.out hb) (zAi HL2.out hb)).mono fun e w' h9 => ⟨h9.1, hb.trans (h9.2.mono hb.size)⟩)
  have HDEL := zA.mk hdel
  clear hdel
  refine HDEL.out.mono ?_
  rintro e w3 ⟨v, rfl, hr, hb⟩
  have HR3 : zA (Kd.R kC 49 w3 (w.heap.size + 1) (fun _ => True) v (sideC s lower cs)) := ⟨hr⟩
  have HB3 : zA (Below w.heap.size w w3) := ⟨HB2.out.trans (hb.mono (by omega))⟩
  obtain ⟨A3, c3, e3⟩ := Kd.zBc HR3.out
  subst e3
  clear hr hb HDEL HR2 HR2'
  have hof := tof_any f t (sideC s lower cs) A3 c3 w3 (Kd.zFb HR3.out).2.2 (by
    have h1 : (sideC s lower cs).length ≤ cs.length := List.length_filter_le _ _
    have := HH.out.2
    omega) (fun x hx => okC_time (HH.out.1.ok x (List.mem_filter.1 hx).1))
  have HOF := zA.mk hof
  obtain ⟨m, hm⟩ : ∃ m, (sideC s lower cs).length = m := ⟨_, rfl⟩
  rw [hm] at HOF ⊢
  clear hof hm HR3
  go_wp2_with fail
  refine HOF.out.mono ?_
  rintro e w4 ⟨hq, _, hb4⟩
  obtain ⟨q, rfl, hq1, hq2⟩ := hq HZ.out
  have HB4 : zA (Below w.heap.size w w4) := ⟨HB3.out.trans (hb4.mono HB3.out.size)⟩
  have HQ : zA (w.heap.size ≤ q ∧ TabAt (fun k => w.heap.size ≤ k ∧ k ≠ q) w4 q f t (sideC s lower cs)) := ⟨Nat.le_trans HB3.out.size hq1, by
    rw [putAll_sorted (l := sideC s lower cs) (HH.out.1.filter _).so] at hq2
    obtain ⟨t', h1, h2⟩ := hq2.ex
    exact ⟨fun h => h.2 rfl, t', h1, h2.mono (fun k hk => ⟨Nat.le_trans HB3.out.size hk.1, hk.2⟩)⟩⟩
  clear hq hq1 hq2 hb4 HOF
  go_wp2_with fail
  go_ret
  exact ⟨q, rfl, HQ.out.1, HQ.out.2, HB4.out⟩
end Go.Proofs.YtpckachmleonlaaGreatDoor
end
section
set_option linter.unusedVariables false
set_option linter.unusedSimpArgs false
namespace Go.Proofs.YtpckachmleonlaaGreatDoor
open Go.RowKit Go.Proofs.YtpckachmleonlaaGreatDoorW.PrintWords
def splitK (a b s : ByteArray) : Int := if s.size = 0 ∨ 32 < s.size then 1 else if ltS a s = false ∨ (b.size ≠ 0 ∧ ltS s b = false) then 8 else 0
def CutPost (a b s : ByteArray) (cs : List CellM) (w : World) (e : Ending) (w' : World) : Prop :=
  (splitK a b s = 0 → ∃ q r, e = .returned (.tuple #[.pointer (some ⟨q, 0, none⟩), .pointer (some ⟨r, 0, none⟩), .int .i64 0]) ∧ w.heap.size ≤ q ∧ w.heap.size ≤ r ∧ TabAt (fun k => w.heap.size ≤ k ∧ k ≠ q) w' q a s (loC s cs) ∧ TabAt (fun k => w.heap.size ≤ k ∧ k ≠ r) w' r s b (hiC s cs)) ∧
  (splitK a b s ≠ 0 → e = .returned (.tuple #[.pointer none, .pointer none, .int .i64 (splitK a b s)])) ∧ Below w.heap.size w w'
theorem cutPost_no {a b s : ByteArray} {cs : List CellM} {w w' : World} {i : Int} (h : splitK a b s = i) (hi : i ≠ 0) (hb : Below w.heap.size w w') : CutPost a b s cs w (.returned (.tuple #[.pointer none, .pointer none, .int .i64 i])) w' :=
  ⟨fun e => absurd (h.symm.trans e) hi, fun _ => by rw [h], hb⟩
theorem le_ltS (x y : ByteArray) : (Op.bytesLess x.toList y.toList || x.toList == y.toList) = !ltS y x := by
  rw [less_ltS]
  cases h : ltS y x with
  | true =>
    have h1 := ltS_asymm h
    have h2 : ¬ x.toList = y.toList := fun e => by
      have e2 := ba_eq.1 e
      subst e2
      rw [ltS_self] at h
      cases h
    rw [h1]
    simp [h2]
  | false =>
    rcases ltS_total h with e | h1
    · subst e
      simp
    · rw [h1]
      rfl
set_option maxHeartbeats 4000000 in
set_option maxRecDepth 100000 in
theorem split_tab (ok : Nat → Prop) (w : World) (p : Nat) (a b : ByteArray) (cs : List CellM) (h : TabAt ok w p a b cs) (ht : TabL a b cs) (s : ByteArray) :
    Calls Tryz.prog 17 #[.pointer (some ⟨p, 0, none⟩), .string s] w fun e w' => CutPost a b s cs w e w' := by
  have HB1 : zA (Below w.heap.size w ((w.alloc (.cells #[.pointer (some ⟨p, 0, none⟩)] 23)).alloc (.cells #[.string s] 9))) := ⟨zAb (zAb (Below.refl _ _) _) _⟩
  have HT1 : zA (TabAt ok ((w.alloc (.cells #[.pointer (some ⟨p, 0, none⟩)] 23)).alloc (.cells #[.string s] 9)) p a b cs) := ⟨h.keep HB1.out⟩
  have HG1 : zA (((w.alloc (.cells #[.pointer (some ⟨p, 0, none⟩)] 23)).alloc (.cells #[.string s] 9)).heap[w.heap.size]? = some (.cells #[.pointer (some ⟨p, 0, none⟩)] 23 (0, 0))) := ⟨zAe (heap_alloc_new _ _) _⟩
  have HS1 : zA (((w.alloc (.cells #[.pointer (some ⟨p, 0, none⟩)] 23)).alloc (.cells #[.string s] 9)).heap[w.heap.size + 1]? = some (.cells #[.string s] 9 (0, 0))) := ⟨Cp.blk_new2 _ _ _⟩
  have HTL := zA.mk ht
  have HBD := zA.mk (bounds_any ok _ p a b cs HT1.out)
  clear h ht
  go_enter Tryz.func17, Tryz.ntmps17
  go_wp2_with fail
  refine HBD.out.mono ?_
  rintro e w2 ⟨rfl, m, hm⟩
  have HB2 : zA (Below w.heap.size w w2) := ⟨by rw [hm]; exact zAc HB1.out _⟩
  have hw : Below ((w.alloc (.cells #[.pointer (some ⟨p, 0, none⟩)] 23)).alloc (.cells #[.string s] 9)).heap.size ((w.alloc (.cells #[.pointer (some ⟨p, 0, none⟩)] 23)).alloc (.cells #[.string s] 9)) w2 := by rw [hm]; exact zAc (Below.refl _ _) _
  have HT2 := zA.mk (HT1.out.keep hw)
  have HG2 := zA.mk (zAi HG1.out hw)
  have HS2 := zA.mk (zAi HS1.out hw)
  clear hm hw HB1 HT1 HG1 HS1 HBD
  have g0 := (zAa HG2.out 0).trans (rfl : _ = some (Value.pointer (some ⟨p, 0, none⟩)))
  have s0 := (zAa HS2.out 0).trans (rfl : _ = some (Value.string s))
  have hlg := zBa HG2.out
  have hls := zBa HS2.out
  rcases Bool.eq_false_or_eq_true s.toList.isEmpty with he | he
  · have HNO : zA (splitK a b s = 1) := ⟨by unfold splitK; rw [if_pos (.inl (Cp.size_zero he))]⟩
    go_wp2_with fail
    go_ret3
    exact cutPost_no HNO.out (by decide) HB2.out
  have HSZ : zA (1 ≤ s.size) := ⟨Cp.size_pos he⟩
  rcases Nat.lt_or_ge 32 s.size with h1 | h1
  · have HNO : zA (splitK a b s = 1) := ⟨by unfold splitK; rw [if_pos (.inr h1)]⟩
    have d1 : decide ((32 : Int) < (s.size : Int)) = true := Cp.dt (by omega)
    clear h1
    go_wp2_with fail
    go_ret3
    exact cutPost_no HNO.out (by decide) HB2.out
  have HS32 := zA.mk h1
  have d1 : decide ((32 : Int) < (s.size : Int)) = false := Cp.df (by omega)
  clear h1
  obtain ⟨x1, hx1⟩ : ∃ x, ltS a s = x := ⟨_, rfl⟩
  have l1 := le_ltS s a
  rw [hx1] at l1
  have HX1 := zA.mk hx1
  clear hx1
  cases x1
  · have HNO : zA (splitK a b s = 8) := ⟨by unfold splitK; rw [if_neg (by have := HSZ.out; have := HS32.out; omega), if_pos (.inl HX1.out)]⟩
    simp only [Bool.not_false] at l1
    go_wp2_with fail
    go_ret3
    exact cutPost_no HNO.out (by decide) HB2.out
  simp only [Bool.not_true] at l1
  rcases Bool.eq_false_or_eq_true b.toList.isEmpty with he2 | he2
  · have HK : zA (splitK a b s = 0) := ⟨by
      have h9 := Cp.size_zero he2
      unfold splitK
      rw [if_neg (by have := HSZ.out; have := HS32.out; omega), if_neg (by rw [HX1.out]; simp [h9])]⟩
    have HBS : zA (b.size = 0 ∨ ltS s b = true) := ⟨.inl (Cp.size_zero he2)⟩
    go_upto_region 11 with fail
    have HL : zA (TabL a s (loC s cs) ∧ TabL s b (hiC s cs)) := ⟨HTL.out.lo HX1.out HS32.out (by have := HSZ.out; omega), HTL.out.hi HBS.out HS32.out⟩
    have HP1 : zA (∀ X, Below w2.heap.size w2 X → Calls Tryz.prog 52 #[.string a, .string s, .bool true, .pointer (some ⟨w.heap.size, 0, none⟩), .pointer (some ⟨w.heap.size + 1, 0, none⟩)] X fun e w' => ∃ q, e = .returned (.pointer (some ⟨q, 0, none⟩)) ∧ X.heap.size ≤ q ∧ TabAt (fun k => X.heap.size ≤ k ∧ k ≠ q) w' q a s (loC s cs) ∧ Below X.heap.size X w') := ⟨fun X hX => by
      have h9 := part_any ok X p a b cs (HT2.out.keep hX) HTL.out.ok (by have := HTL.out.len; omega) a s s true w.heap.size (w.heap.size + 1) (zAi HG2.out hX) (zAi HS2.out hX) (by rw [side_lo]; exact HL.out.1.back.1)
      rw [side_lo] at h9
      exact h9⟩
    have HP2 : zA (∀ X, Below w2.heap.size w2 X → Calls Tryz.prog 52 #[.string s, .string b, .bool false, .pointer (some ⟨w.heap.size, 0, none⟩), .pointer (some ⟨w.heap.size + 1, 0, none⟩)] X fun e w' => ∃ q, e = .returned (.pointer (some ⟨q, 0, none⟩)) ∧ X.heap.size ≤ q ∧ TabAt (fun k => X.heap.size ≤ k ∧ k ≠ q) w' q s b (hiC s cs) ∧ Below X.heap.size X w') := ⟨fun X hX => by
      have h9 := part_any ok X p a b cs (HT2.out.keep hX) HTL.out.ok (by have := HTL.out.len; omega) s b s false w.heap.size (w.heap.size + 1) (zAi HG2.out hX) (zAi HS2.out hX) (by rw [side_hi]; exact HL.out.2.back.1)
      rw [side_hi] at h9
      exact h9⟩
    have HKEEP : zA (∀ X, Below w2.heap.size w2 X → X.cell? ⟨w.heap.size + 1, 0, none⟩ = some (.string s)) := ⟨fun X hX => (zAa (zAi HS2.out hX) 0).trans rfl⟩
    go_region_held3 (fun X => X.cell? ⟨w.heap.size + 1, 0, none⟩ = some (.string s)) (exact HKEEP.out _ (by with_reducible repeat (first | exact Below.refl _ _ | exact HB3.out | exact HB4.out | refine zAk ?_ | refine zAc ?_ _ | refine zAb ?_ _)))
      (first
        | (with_reducible refine (HP2.out _ (by with_reducible repeat (first | exact Below.refl _ _ | exact HB3.out | exact HB4.out | refine zAk ?_ | refine zAc ?_ _ | refine zAb ?_ _))).mono ?_; rintro e W4 ⟨r, rfl, hr1, hr2, hb4⟩; have HB4 := zA.mk (bl_to (w2 := w2) (by with_reducible repeat (first | exact Below.refl _ _ | exact HB3.out | exact HB4.out | refine zAk ?_ | refine zAc ?_ _ | refine zAb ?_ _)) hb4); have HR4 := zA.mk (And.intro hr1 hr2); have HBT := zA.mk (HQ3.out.2.keep (bl_to (w2 := W3) (by with_reducible repeat (first | exact Below.refl _ _ | refine zAk ?_ | refine zAc ?_ _ | refine zAb ?_ _)) hb4)); clear hr1 hr2 hb4)
        | (with_reducible refine (HP1.out _ (by with_reducible repeat (first | exact Below.refl _ _ | exact HB3.out | exact HB4.out | refine zAk ?_ | refine zAc ?_ _ | refine zAb ?_ _))).mono ?_; rintro e W3 ⟨q, rfl, hq1, hq2, hb3⟩; have HB3 := zA.mk (bl_to (w2 := w2) (by with_reducible repeat (first | exact Below.refl _ _ | exact HB3.out | exact HB4.out | refine zAk ?_ | refine zAc ?_ _ | refine zAb ?_ _)) hb3); have HQ3 := zA.mk (And.intro hq1 hq2); clear hq1 hq2 hb3)
        | fail)
    all_goals (
      go_wp2_with fail
      go_ret3
      have h9 : w2.heap.size ≤ q := HQ3.out.1
      have hs3 := HB3.out.size
      have hz2 := HB2.out.size
      refine ⟨fun _ => ⟨q, r, rfl, by omega, by have := HR4.out.1; omega, ?_, ?_⟩, fun h => absurd HK.out h, HB2.out.trans (HB4.out.mono HB2.out.size)⟩
      · obtain ⟨t', h1, h2⟩ := HBT.out.ex
        exact ⟨fun h => h.2 rfl, t', h1, h2.mono (fun k hk => ⟨Nat.le_trans hz2 hk.1, hk.2⟩)⟩
      · obtain ⟨t', h1, h2⟩ := HR4.out.2.ex
        exact ⟨fun h => h.2 rfl, t', h1, h2.mono (fun k hk => ⟨Nat.le_trans hz2 (Nat.le_trans hs3 hk.1), hk.2⟩)⟩)
  have HBZ : zA (b.size ≠ 0) := ⟨by have := Cp.size_pos he2; omega⟩
  obtain ⟨x2, hx2⟩ : ∃ x, ltS s b = x := ⟨_, rfl⟩
  have l2 := less_ltS s b
  rw [hx2] at l2
  have HX2 := zA.mk hx2
  clear hx2
  cases x2
  · have HNO : zA (splitK a b s = 8) := ⟨by unfold splitK; rw [if_neg (by have := HSZ.out; have := HS32.out; omega), if_pos (.inr ⟨HBZ.out, HX2.out⟩)]⟩
    go_wp2_with fail
    go_ret3
    exact cutPost_no HNO.out (by decide) HB2.out
  · have HK : zA (splitK a b s = 0) := ⟨by
      unfold splitK
      rw [if_neg (by have := HSZ.out; have := HS32.out; omega), if_neg (by rw [HX1.out, HX2.out]; simp)]⟩
    have HBS : zA (b.size = 0 ∨ ltS s b = true) := ⟨.inr HX2.out⟩
    go_upto_region 11 with fail
    have HL : zA (TabL a s (loC s cs) ∧ TabL s b (hiC s cs)) := ⟨HTL.out.lo HX1.out HS32.out (by have := HSZ.out; omega), HTL.out.hi HBS.out HS32.out⟩
    have HP1 : zA (∀ X, Below w2.heap.size w2 X → Calls Tryz.prog 52 #[.string a, .string s, .bool true, .pointer (some ⟨w.heap.size, 0, none⟩), .pointer (some ⟨w.heap.size + 1, 0, none⟩)] X fun e w' => ∃ q, e = .returned (.pointer (some ⟨q, 0, none⟩)) ∧ X.heap.size ≤ q ∧ TabAt (fun k => X.heap.size ≤ k ∧ k ≠ q) w' q a s (loC s cs) ∧ Below X.heap.size X w') := ⟨fun X hX => by
      have h9 := part_any ok X p a b cs (HT2.out.keep hX) HTL.out.ok (by have := HTL.out.len; omega) a s s true w.heap.size (w.heap.size + 1) (zAi HG2.out hX) (zAi HS2.out hX) (by rw [side_lo]; exact HL.out.1.back.1)
      rw [side_lo] at h9
      exact h9⟩
    have HP2 : zA (∀ X, Below w2.heap.size w2 X → Calls Tryz.prog 52 #[.string s, .string b, .bool false, .pointer (some ⟨w.heap.size, 0, none⟩), .pointer (some ⟨w.heap.size + 1, 0, none⟩)] X fun e w' => ∃ q, e = .returned (.pointer (some ⟨q, 0, none⟩)) ∧ X.heap.size ≤ q ∧ TabAt (fun k => X.heap.size ≤ k ∧ k ≠ q) w' q s b (hiC s cs) ∧ Below X.heap.size X w') := ⟨fun X hX => by
      have h9 := part_any ok X p a b cs (HT2.out.keep hX) HTL.out.ok (by have := HTL.out.len; omega) s b s false w.heap.size (w.heap.size + 1) (zAi HG2.out hX) (zAi HS2.out hX) (by rw [side_hi]; exact HL.out.2.back.1)
      rw [side_hi] at h9
      exact h9⟩
    have HKEEP : zA (∀ X, Below w2.heap.size w2 X → X.cell? ⟨w.heap.size + 1, 0, none⟩ = some (.string s)) := ⟨fun X hX => (zAa (zAi HS2.out hX) 0).trans rfl⟩
    go_region_held3 (fun X => X.cell? ⟨w.heap.size + 1, 0, none⟩ = some (.string s)) (exact HKEEP.out _ (by with_reducible repeat (first | exact Below.refl _ _ | exact HB3.out | exact HB4.out | refine zAk ?_ | refine zAc ?_ _ | refine zAb ?_ _)))
      (first
        | (with_reducible refine (HP2.out _ (by with_reducible repeat (first | exact Below.refl _ _ | exact HB3.out | exact HB4.out | refine zAk ?_ | refine zAc ?_ _ | refine zAb ?_ _))).mono ?_; rintro e W4 ⟨r, rfl, hr1, hr2, hb4⟩; have HB4 := zA.mk (bl_to (w2 := w2) (by with_reducible repeat (first | exact Below.refl _ _ | exact HB3.out | exact HB4.out | refine zAk ?_ | refine zAc ?_ _ | refine zAb ?_ _)) hb4); have HR4 := zA.mk (And.intro hr1 hr2); have HBT := zA.mk (HQ3.out.2.keep (bl_to (w2 := W3) (by with_reducible repeat (first | exact Below.refl _ _ | refine zAk ?_ | refine zAc ?_ _ | refine zAb ?_ _)) hb4)); clear hr1 hr2 hb4)
        | (with_reducible refine (HP1.out _ (by with_reducible repeat (first | exact Below.refl _ _ | exact HB3.out | exact HB4.out | refine zAk ?_ | refine zAc ?_ _ | refine zAb ?_ _))).mono ?_; rintro e W3 ⟨q, rfl, hq1, hq2, hb3⟩; have HB3 := zA.mk (bl_to (w2 := w2) (by with_reducible repeat (first | exact Below.refl _ _ | exact HB3.out | exact HB4.out | refine zAk ?_ | refine zAc ?_ _ | refine zAb ?_ _)) hb3); have HQ3 := zA.mk (And.intro hq1 hq2); clear hq1 hq2 hb3)
        | fail)
    all_goals (
      go_wp2_with fail
      go_ret3
      have h9 : w2.heap.size ≤ q := HQ3.out.1
      have hs3 := HB3.out.size
      have hz2 := HB2.out.size
      refine ⟨fun _ => ⟨q, r, rfl, by omega, by have := HR4.out.1; omega, ?_, ?_⟩, fun h => absurd HK.out h, HB2.out.trans (HB4.out.mono HB2.out.size)⟩
      · obtain ⟨t', h1, h2⟩ := HBT.out.ex
        exact ⟨fun h => h.2 rfl, t', h1, h2.mono (fun k hk => ⟨Nat.le_trans hz2 hk.1, hk.2⟩)⟩
      · obtain ⟨t', h1, h2⟩ := HR4.out.2.ex
        exact ⟨fun h => h.2 rfl, t', h1, h2.mono (fun k hk => ⟨Nat.le_trans hz2 (Nat.le_trans hs3 hk.1), hk.2⟩)⟩)
end Go.Proofs.YtpckachmleonlaaGreatDoor
end
