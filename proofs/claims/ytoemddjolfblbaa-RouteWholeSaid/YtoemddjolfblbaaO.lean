/- route.Split: its kind, and the table that is cut. -/
import Derived.Test.YtoemddjolfblbaaN
import Derived.Test.YtoemddjolfblbaaI
import Derived.Deep.RegionHeld3
/- route.Split. -/
set_option linter.unusedVariables false
set_option linter.unusedSimpArgs false
namespace Go.Proofs.Ytoemddjolfblbaa
open Go.RowKit Go.Proofs.YtoemddjolfblbaaW.PrintWords

theorem R_mk' {w : World} {base e n : Nat} {v : Value} {l : List Part} (hn : n = l.length) (h : w.ownsRow base e 3 v n (flatP l)) : Kd.R kP e w base (fun _ => True) v l := by
  subst hn
  exact R_mk h
/-- A row of the call's own, taken apart. -/
structure OwnAt (w : World) (base g n cap : Nat) (cur : List Value) : Prop where
  hg : w.heap[g]? = some (.cells cur.toArray 27 (0, 0))
  hcur : cur.length = cap * 3
  hn : n ≤ cap
  hcap : cap ≤ maxLen
  hbg : base ≤ g
theorem own_at {w : World} {base : Nat} {v : Value} {n : Nat} {xs : List Value} (h : w.ownsRow base 27 3 v n xs) (hn : 0 < n) : ∃ g cap cur, v = .slice (some ⟨g, 0, none⟩) n cap ∧ OwnAt w base g n cap cur ∧ cur.take (n * 3) = xs := by
  rcases h.2 with ⟨_, h0⟩ | ⟨g, cap, cur, rfl, h1, h2, h3, h4, h5, h6⟩
  · omega
  · exact ⟨g, cap, cur.toList, rfl, ⟨by simpa using h2, by simpa using h5, h3, h4, h1⟩, h6⟩
theorem OwnAt.keep {w w' : World} {base g n cap : Nat} {cur : List Value} (h : OwnAt w base g n cap cur) (hh : w'.heap[g]? = w.heap[g]?) : OwnAt w' base g n cap cur := ⟨hh.trans h.hg, h.hcur, h.hn, h.hcap, h.hbg⟩

theorem insert_int (w : World) (base g n cap vb k : Nat) (K : Int) (hK : K = (k : Int)) (cur ys : List Value) (h : InsIn w base g n cap vb cur ys) (hk : k ≤ n) :
    Calls Try.prog 27 #[.slice (some ⟨g, 0, none⟩) n cap, .int .i64 K, .slice (some ⟨vb, 0, none⟩) 1 1] w fun e w' => ∃ v', e = .returned v' ∧ w'.ownsRow base 27 3 v' (n + 1) (cur.take (k * 3) ++ ys ++ (cur.take (n * 3)).drop (k * 3)) ∧ Below base w w' := by
  subst hK
  exact insert_any w base g n cap vb k cur ys h hk
/-- From a row that was cloned and a box, in either order. -/
theorem ins_in {W w4 : World} {base gb n cap vb : Nat} {cur ys : List Value} (ho : OwnAt W base gb n cap cur) (hg : w4.heap[gb]? = W.heap[gb]?) (hv : w4.heap[vb]? = some (.cells ys.toArray 27 (0, 0))) (hys : ys.length = 3) (hne : vb ≠ gb)
    (h1 : ∀ u ∈ cur.take (n * 3), u.oneCell' = true) (h1y : ∀ u ∈ ys, u.oneCell' = true) (hb : base ≤ w4.heap.size) (hsz : n ≤ 1000) : InsIn w4 base gb n cap vb cur ys :=
  ⟨hg.trans ho.hg, ho.hcur, ho.hn, ho.hcap, hv, hys, hne, h1, h1y, ho.hbg, hb, hsz⟩
def splitK (l : List Part) (at_ : ByteArray) (g : Int) : Int :=
  if rightB l then (if isL l at_ || decide (32 < at_.size) || g == 0 then 1 else if l.length < 64 then 0 else 4) else 3
def cutL (l : List Part) (i : Nat) (at_ : ByteArray) (g : Int) : List Part := l.take i ++ [⟨(pat l i).from_, at_, (pat l i).group⟩, ⟨at_, (pat l i).to_, g⟩] ++ l.drop (i + 1)
def splitR (l : List Part) (at_ : ByteArray) (g : Int) : List Part := if splitK l at_ g = 0 then cutL l (plI l at_).toNat at_ g else []

theorem cut_cells {l : List Part} {i : Nat} (hi : i < l.length) {cur : List Value} (hc : cur.take (l.length * 3) = flatP l) (at_ : ByteArray) (g : Int) :
    (cur.take ((i + 1) * 3) ++ ([.string at_, .string (pat l i).to_, .int .u64 g] : List Value) ++ (cur.take (l.length * 3)).drop ((i + 1) * 3)).set (i * 3 + 1) (.string at_) = flatP (cutL l i at_ g) := by
  have h1 : cur.take ((i + 1) * 3) = flatP (l.take (i + 1)) := by
    rw [← flatP_take, ← hc, List.take_take, Nat.min_eq_left (by omega)]
  have h2 : flatP (l.take (i + 1)) = flatP (l.take i) ++ cellsP (pat l i) := by
    rw [← pat_take hi, flatP_append]
    congr 1
  have h3 : (flatP (l.take i)).length = i * 3 := by rw [flatP_length, List.length_take]; omega
  rw [h1, h2, hc, flatP_drop, List.append_assoc, List.append_assoc, List.set_append_right _ _ (by omega), h3]
  unfold cutL
  rw [flatP_append, flatP_append, List.append_assoc, show i * 3 + 1 - i * 3 = 1 by omega]
  rfl
theorem cut_length {l : List Part} {i : Nat} (hi : i < l.length) (at_ : ByteArray) (g : Int) : (cutL l i at_ g).length = l.length + 1 := by
  unfold cutL
  simp
  omega
set_option maxHeartbeats 2000000 in
set_option maxRecDepth 100000 in
theorem split_yes (A : Option Addr) (c : Nat) (l : List Part) (at_ : ByteArray) (g : Int) (w : World) (hr : Kd.C kP w A l.length l) (hc : l.length ≤ c) (hR : rightB l = true) (hi : isL l at_ = false) (ha : at_.size ≤ 32) (hg : g ≠ 0) (hl : l.length < 64) :
    Calls Try.prog 20 #[.slice A l.length c, .string at_, .int .u64 g] w fun e w' => ∃ v, e = .returned (.tuple #[v, .int .i64 0]) ∧ Kd.R kP 27 w' w.heap.size (fun _ => True) v (cutL l (plI l at_).toNat at_ g) ∧ Below w.heap.size w w' := by
  have HR := Aside0.mk hr
  have HI := Aside0.mk hR
  have HIS := Aside0.mk hi
  clear hr hR hi
  obtain ⟨i, hp, hat, his⟩ := place_at ((rightB_iff l).1 HI.out) at_
  have hk : rightK l = 0 := by unfold rightK; rw [HI.out]; rfl
  rw [hp, Int.toNat_natCast]
  have hil := hat.lt
  have h3 : (i : Int) < l.length := by omega
  obtain ⟨ad, rfl, HH⟩ := kP_hold HR.out i hat.lt
  have HP := Aside0.mk hp
  have HK := Aside0.mk hk
  clear hp hat his hk
  have g1 : (g == 0) = false := ine hg
  have d1 : decide ((32 : Int) < (at_.size : Int)) = false := df (by omega)
  have d1' : decide (32 < at_.size) = false := df (by omega)
  have d2 : decide (l.length < 64) = true := dt (by omega)
  have d3 : decide ((64 : Int) ≤ (l.length : Int)) = false := df (by omega)
  have d3' : decide (64 ≤ l.length) = false := df (by omega)
  go_enter Try.func20, Try.ntmps20
  go_wp2_with fail
  refine (right_any _ _ l _ HR.out (by omega)).mono ?_
  rintro e w1 ⟨rfl, hb1⟩
  rw [HK.out]
  have HW1 := Aside0.mk hb1
  clear hb1
  go_wp2_with fail
  refine (place_any _ _ l at_ _ (Kd.C_below HR.out HW1.out) hc (by omega)).mono ?_
  rintro e w2 ⟨rfl, hb2⟩
  rw [HP.out, HIS.out]
  have HW2 := Aside0.mk (HW1.out.trans (hb2.mono HW1.out.size))
  clear hb2
  obtain ⟨c0, c1, c2⟩ := HH.out _ HW2.out
  have hw1 : IntKind.i64.wrap ((i : Int) + 1) = (i : Int) + 1 := by rw [IntKind.wrap_i64]; omega
  have hb0 : (0 : Int) ≤ (i : Int) + 1 := by omega
  have htn : ((i : Int) + 1).toNat = i + 1 := by omega
  go_wp2_with fail
  go_region_held3 (fun w' => w'.cell? ⟨(ad.add (i * 3)).block, (ad.add (i * 3)).off + 1, none⟩ = some (.string (pat l i).to_))
    (first | go_keep | exact (HH.out _ HB3.out).2.1 | exact (HH.out _ HB4.out).2.1)
    ((first
      | (go_at_call 28
         refine (clone_any _ _ l _ (Kd.C_below HR.out (by first | exact HW2.out.drew | exact HW2.out.drew.alloc HW2.out.size _)) (by omega)).mono ?_
         rintro e w3 ⟨v3, rfl, hr3, hb3⟩
         have HB3 : Aside0 (Below w.heap.size w w3) := ⟨by first | exact HW2.out.drew.trans (hb3.mono HW2.out.size) | exact (HW2.out.drew.alloc HW2.out.size _).trans (hb3.mono (by have := HW2.out.size; simp; omega))⟩
         obtain ⟨gb, cap, cur, rfl, ho3, ht3⟩ := own_at (R_flat hr3) (by omega)
         have HO3 := Aside0.mk ho3
         have HT3 := Aside0.mk ht3
         have Hb3 := Aside0.mk hb3
         clear hr3 hb3 ho3 ht3)
      | (go_at_call 27
         refine (insert_int _ w.heap.size gb l.length cap _ (i + 1) _ (by omega) cur [.string at_, .string (pat l i).to_, .int .u64 g] (ins_in (W := w3) ⟨HO3.out.hg, HO3.out.hcur, HO3.out.hn, HO3.out.hcap, ?b1⟩ ?b2 ?b3 rfl ?b4 ?b5 ?b6 ?b7 (by omega)) (by omega)).mono ?_
         (case b1 => exact Nat.le_trans HW2.out.size (by first | exact HO3.out.hbg | exact Nat.le_of_succ_le (by simpa using HO3.out.hbg)))
         (case b2 => first | rfl | exact Below.heap_alloc _ _ _ (blk_lt HO3.out.hg))
         (case b3 => first | exact heap_alloc_new w3 _ | exact (Hb3.out.block _ (by simp)).trans (heap_alloc_new w2.drew _))
         (case b4 => first | exact Nat.ne_of_gt (blk_lt HO3.out.hg) | exact Nat.ne_of_lt (Nat.lt_of_succ_le (by simpa using HO3.out.hbg)))
         (case b5 => rw [HT3.out]; exact flatP_one l)
         (case b6 => intro u hu; simp only [List.mem_cons, List.not_mem_nil, or_false] at hu; rcases hu with rfl | rfl | rfl <;> rfl)
         (case b7 => have := HB3.out.size; first | exact this | (simp; omega))
         rintro e w4 ⟨v4, rfl, ho4, hb4⟩
         have HB4 : Aside0 (Below w.heap.size w w4) := ⟨by first | exact HB3.out.trans hb4 | exact (HB3.out.alloc HB3.out.size _).trans hb4⟩
         have HO4 := Aside0.mk ho4
         clear ho4 hb4)))
  all_goals
    obtain ⟨g5, cap5, cur5, rfl, ho5, ht5⟩ := own_at HO4.out (by omega)
    have HO5 := Aside0.mk ho5
    have q0 : (i : Int) < ((l.length + 1 : Nat) : Int) := by omega
    have q0' : (i : Int) < (l.length : Int) + 1 := by omega
    have hlen : i * 3 + 1 < cur5.length := by rw [ho5.hcur]; have := ho5.hn; omega
    have q1 : w4.cell? ⟨g5, i * 3 + 1, none⟩ = some (cur5[i * 3 + 1]) := by
      rw [blk_cell ho5.hg]
      simp [hlen]
    have q2 : w4.frozen? ⟨g5, i * 3 + 1, none⟩ = false := blk_frozen ho5.hg _
    clear ho5 ht5 hw1 htn
    go_wp2_with fail
    go_ret2
    have hst := HO4.out.stored (i * 3 + 1) (.string at_)
    rw [cut_cells hil HT3.out] at hst
    exact ⟨_, rfl, R_mk' (cut_length hil at_ g).symm hst.1, HB4.out.setCell HO5.out.hbg _⟩

def RetK (v : Value) (k : Int) (e : Ending) : Prop := e = .returned (.tuple #[v, .int .i64 k])
set_option maxHeartbeats 2000000 in
set_option maxRecDepth 100000 in
theorem split_any (A : Option Addr) (c : Nat) (l : List Part) (at_ : ByteArray) (g : Int) (w : World) (hr : Kd.C kP w A l.length l) (hc : l.length ≤ c) (hlen : l.length ≤ 1000) (has : at_.size ≤ 1000000) :
    Calls Try.prog 20 #[.slice A l.length c, .string at_, .int .u64 g] w fun e w' => ∃ v, e = .returned (.tuple #[v, .int .i64 (splitK l at_ g)]) ∧ Kd.R kP 27 w' w.heap.size (fun _ => True) v (splitR l at_ g) ∧ Below w.heap.size w w' := by
  have HR := Aside0.mk hr
  rcases Bool.eq_false_or_eq_true (rightB l) with hi | hi
  · have hk : rightK l = 0 := by unfold rightK; rw [hi]; rfl
    have HK := Aside0.mk hk
    have HI := Aside0.mk hi
    by_cases hbad : (isL l at_ || decide (32 < at_.size) || g == 0) = true
    · have hs : splitK l at_ g = 1 := by unfold splitK; rw [hi, if_pos rfl, if_pos hbad]
      have hsr : splitR l at_ g = [] := by unfold splitR; rw [hs]; rfl
      rw [hs, hsr]
      clear hr hk hi hs hsr
      rcases Bool.eq_false_or_eq_true (isL l at_) with t1 | t1
      · have T1 := Aside0.mk t1
        clear t1 hbad
        go_enter Try.func20, Try.ntmps20
        go_wp2_with fail
        refine (right_any _ _ l _ HR.out (by omega)).mono ?_
        rintro e w1 ⟨rfl, hb1⟩
        rw [HK.out]
        have HW1 := Aside0.mk hb1
        clear hb1
        go_wp2_with fail
        refine (place_any _ _ l at_ _ (Kd.C_below HR.out HW1.out) hc (by omega)).mono ?_
        rintro e w2 ⟨rfl, hb2⟩
        rw [T1.out]
        have HW2 := Aside0.mk (HW1.out.trans (hb2.mono HW1.out.size))
        clear hb2
        go_wp2_with fail
        go_ret2
        exact ⟨_, rfl, Kd.R_nil _ _ _ _ _, HW2.out⟩
      · have T1 := Aside0.mk t1
        rw [t1] at hbad
        by_cases t2 : at_.size ≤ 32
        · have t3 : (g == 0) = true := by simpa [show ¬ 32 < at_.size by omega] using hbad
          have d1 : decide ((32 : Int) < (at_.size : Int)) = false := df (by omega)
          have d1' : decide (32 < at_.size) = false := df (by omega)
          clear t1 hbad
          go_enter Try.func20, Try.ntmps20
          go_wp2_with fail
          refine (right_any _ _ l _ HR.out (by omega)).mono ?_
          rintro e w1 ⟨rfl, hb1⟩
          rw [HK.out]
          have HW1 := Aside0.mk hb1
          clear hb1
          go_wp2_with fail
          refine (place_any _ _ l at_ _ (Kd.C_below HR.out HW1.out) hc (by omega)).mono ?_
          rintro e w2 ⟨rfl, hb2⟩
          rw [T1.out]
          have HW2 := Aside0.mk (HW1.out.trans (hb2.mono HW1.out.size))
          clear hb2
          go_wp2_with fail
          go_ret2
          exact ⟨_, rfl, Kd.R_nil _ _ _ _ _, HW2.out⟩
        · have d1 : decide ((32 : Int) < (at_.size : Int)) = true := dt (by omega)
          have d1' : decide (32 < at_.size) = true := dt (by omega)
          clear t1 hbad
          go_enter Try.func20, Try.ntmps20
          go_wp2_with fail
          refine (right_any _ _ l _ HR.out (by omega)).mono ?_
          rintro e w1 ⟨rfl, hb1⟩
          rw [HK.out]
          have HW1 := Aside0.mk hb1
          clear hb1
          go_wp2_with fail
          refine (place_any _ _ l at_ _ (Kd.C_below HR.out HW1.out) hc (by omega)).mono ?_
          rintro e w2 ⟨rfl, hb2⟩
          rw [T1.out]
          have HW2 := Aside0.mk (HW1.out.trans (hb2.mono HW1.out.size))
          clear hb2
          go_wp2_with fail
          go_ret2
          exact ⟨_, rfl, Kd.R_nil _ _ _ _ _, HW2.out⟩
    · by_cases hl : l.length < 64
      · simp only [Bool.not_eq_true, Bool.or_eq_false_iff, decide_eq_false_iff_not, beq_eq_false_iff_ne] at hbad
        have hs : splitK l at_ g = 0 := by unfold splitK; simp [hi, hbad, hl]
        have hsr : splitR l at_ g = cutL l (plI l at_).toNat at_ g := by unfold splitR; rw [hs]; rfl
        rw [hs, hsr]
        exact split_yes A c l at_ g w hr hc hi hbad.1.1 (by omega) hbad.2 hl
      · simp only [Bool.not_eq_true, Bool.or_eq_false_iff, decide_eq_false_iff_not, beq_eq_false_iff_ne] at hbad
        have hs : splitK l at_ g = 4 := by unfold splitK; simp [hi, hbad, hl]
        have hsr : splitR l at_ g = [] := by unfold splitR; rw [hs]; rfl
        rw [hs, hsr]
        have T1 := Aside0.mk hbad.1.1
        have t3 : (g == 0) = false := ine hbad.2
        have d1 : decide ((32 : Int) < (at_.size : Int)) = false := df (by omega)
        have d1' : decide (32 < at_.size) = false := df (by omega)
        have d3 : decide ((64 : Int) ≤ (l.length : Int)) = true := dt (by omega)
        have d3' : decide (64 ≤ l.length) = true := dt (by omega)
        clear hr hk hi hs hsr hbad
        go_enter Try.func20, Try.ntmps20
        go_wp2_with fail
        refine (right_any _ _ l _ HR.out (by omega)).mono ?_
        rintro e w1 ⟨rfl, hb1⟩
        rw [HK.out]
        have HW1 := Aside0.mk hb1
        clear hb1
        go_wp2_with fail
        refine (place_any _ _ l at_ _ (Kd.C_below HR.out HW1.out) hc (by omega)).mono ?_
        rintro e w2 ⟨rfl, hb2⟩
        rw [T1.out]
        have HW2 := Aside0.mk (HW1.out.trans (hb2.mono HW1.out.size))
        clear hb2
        go_wp2_with fail
        go_ret2
        exact ⟨_, rfl, Kd.R_nil _ _ _ _ _, HW2.out⟩
  · have hk : rightK l = 3 := by unfold rightK; rw [hi]; rfl
    have hs : splitK l at_ g = 3 := by unfold splitK; rw [hi]; rfl
    have hsr : splitR l at_ g = [] := by unfold splitR; rw [hs]; rfl
    rw [hs, hsr]
    have HK := Aside0.mk hk
    clear hr hk hi hs hsr
    go_enter Try.func20, Try.ntmps20
    go_wp2_with fail
    refine (right_any _ _ l _ HR.out (by omega)).mono ?_
    rintro e w1 ⟨rfl, hb1⟩
    rw [HK.out]
    go_wp2_with fail
    go_ret2
    exact ⟨_, rfl, Kd.R_nil _ _ _ _ _, hb1⟩
end Go.Proofs.Ytoemddjolfblbaa
