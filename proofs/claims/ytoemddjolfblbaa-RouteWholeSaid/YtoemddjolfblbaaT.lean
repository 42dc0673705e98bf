/- route.Cover: its kind, and the parts that it tells. -/
import Derived.Test.YtoemddjolfblbaaI
import Derived.Test.YtoemddjolfblbaaN
set_option linter.unusedVariables false
set_option linter.unusedSimpArgs false
namespace Go.Proofs.Ytoemddjolfblbaa
open Go.RowKit Go.Proofs.YtoemddjolfblbaaW.PrintWords

def mxB (a b : ByteArray) : ByteArray := if belowB a b then b else a
def emB (a : ByteArray) : Bool := a.toList.isEmpty
/-- The end of a part, cut to t. -/
def endB (to_ t : ByteArray) : ByteArray := if !emB t && (emB to_ || belowB t to_) then t else to_
def cutP (p : Part) (f t : ByteArray) : Part := ⟨mxB p.from_ f, endB p.to_ t, p.group⟩
/-- Is a part behind the stretch? -/
def outB (p : Part) (f t : ByteArray) : Bool := !emB t && !belowB (mxB p.from_ f) t
def covG : List Part → ByteArray → ByteArray → List Part
  | [], _, _ => []
  | p :: r, f, t => if outB p f t then [] else cutP p f t :: covG r f t
def coverK (l : List Part) (f t : ByteArray) : Int := if rightB l then (if 32 < f.size ∨ 32 < t.size then 1 else 0) else 3
def coverR (l : List Part) (f t : ByteArray) : List Part := if coverK l f t = 0 ∧ (emB t || belowB f t) then covG (l.drop (plI l f).toNat) f t else []

theorem run_max_str {P : Program} (w : World) (ts : Array TypeId) (t : TypeId) (x y : ByteArray) : (Builtin.max_ ts t #[.string x, .string y]).run P w = .ok (.string (mxB x y)) w := by
  have e : (Builtin.max_ ts t #[.string x, .string y]).run P w = .ok (.string (if !Op.bytesLess x.toList y.toList then x else y)) w := by
    simp [Builtin.max_, Builtin.max2, Op.stringOp, asBool]
  rw [e, less_below]
  unfold mxB
  cases belowB x y <;> rfl

theorem geq_below (a b : ByteArray) : (!Op.bytesLess a.toList b.toList) = !belowB a b := by rw [less_below]
theorem gtr_below (a b : ByteArray) : (!Op.bytesLess a.toList b.toList && !(a.toList == b.toList)) = belowB b a := by
  have h := leq_below a b
  cases h1 : Op.bytesLess a.toList b.toList <;> cases h2 : (a.toList == b.toList) <;> rw [h1, h2] at h <;> simpa using h

theorem covG_step {l : List Part} {j : Nat} (hj : j < l.length) (f t : ByteArray) : covG (l.drop j) f t = if outB (pat l j) f t then [] else cutP (pat l j) f t :: covG (l.drop (j + 1)) f t := by
  rw [List.drop_eq_getElem_cons hj]
  have e : l[j] = pat l j := by simp [pat, List.getD_eq_getElem?_getD, List.getElem?_eq_getElem hj]
  rw [e]
  rfl
theorem pat_drop {l : List Part} {i j : Nat} : pat (l.drop i) j = pat l (i + j) := by
  simp [pat, List.getD_eq_getElem?_getD, List.getElem?_drop]

set_option maxHeartbeats 4000000 in
set_option maxRecDepth 100000 in
theorem cover_yes (A : Option Addr) (c : Nat) (l : List Part) (f t : ByteArray) (w : World) (hr : Kd.C kP w A l.length l) (hc : l.length ≤ c) (hR : rightB l = true) (hf : f.size ≤ 32) (ht : t.size ≤ 32) (hb : (emB t || belowB f t) = true) :
    Calls Try.prog 16 #[.slice A l.length c, .string f, .string t] w fun e w' => ∃ v, e = .returned (.tuple #[v, .int .i64 0]) ∧ Kd.R kP 27 w' w.heap.size (fun _ => True) v (covG (l.drop (plI l f).toNat) f t) ∧ Below w.heap.size w w' := by
  have HR := Aside0.mk hr
  have HI := Aside0.mk hR
  clear hr hR
  obtain ⟨i, hp, hat, his⟩ := place_at ((rightB_iff l).1 HI.out) f
  have hk : rightK l = 0 := by unfold rightK; rw [HI.out]; rfl
  have hl64 := ((rightB_iff l).1 HI.out).most
  rw [hp, Int.toNat_natCast]
  have hil := hat.lt
  have h3 : (i : Int) < l.length := by omega
  have HP := Aside0.mk hp
  have HK := Aside0.mk hk
  clear hp hat his hk
  have hmx := fun w ts ty x y => run_max_str (P := Try.prog) w ts ty x y
  have hci : ¬ (c = i) := by omega
  have hli : l.length - i ≤ 64 := by omega
  obtain ⟨ad, rfl, _⟩ := kP_hold HR.out i hil
  have HD := Aside0.mk (Kd.C_drop (c := c) (m := i) HR.out (by omega) hc)
  rw [if_neg hci] at HD
  have HD : Aside0 (kP.C w (some (ad.add (i * 3))) (l.drop i).length (l.drop i)) := ⟨HD.out⟩
  have hdl : (l.drop i).length = l.length - i := List.length_drop
  have HDL := Aside0.mk hdl
  have hb5 : decide (32 < f.size) = false := df (by omega)
  have hb6 : decide (32 < t.size) = false := df (by omega)
  have hb5' : decide ((32 : Int) < (f.size : Int)) = false := df (by omega)
  have hb6' : decide ((32 : Int) < (t.size : Int)) = false := df (by omega)
  clear hdl
  rcases Bool.eq_false_or_eq_true (emB t) with te | te
  · have te' : t.toList.isEmpty = true := te
    have te2 : (!t.toList.isEmpty) = false := by rw [te']; rfl
    have TE := Aside0.mk te
    clear te hb
    by_cases hft : f.size < t.size
    all_goals
      go_enter Try.func16, Try.ntmps16
      go_wp2_with fail
      refine (right_any _ _ l _ HR.out (by omega)).mono ?_
      rintro e w1 ⟨rfl, hb1⟩
      rw [HK.out]
      have HW1 := Aside0.mk hb1
      clear hb1
      go_wp2_with fail
      refine (place_any _ _ l f _ (Kd.C_below HR.out HW1.out) hc (by omega)).mono ?_
      rintro e w2 ⟨rfl, hb2⟩
      rw [HP.out]
      have HW2 := Aside0.mk (HW1.out.trans (hb2.mono HW1.out.size))
      clear hb2
      go_wp2_with fail
      go_loopw [6, 41] (fun v vj w' => ∃ (j : Nat) (dn : List Part), j ≤ l.length - i ∧ dn.length ≤ j ∧ vj = .int .i64 j ∧ Aside0 (Kd.R kP 27 w' w.heap.size (fun _ => True) v dn) ∧ Aside0 (Below w.heap.size w w') ∧ Aside0 (covG (l.drop i) f t = dn ++ covG (l.drop (i + j)) f t)) (fun _ vj _ => (l.length - i) - (intOf vj).toNat)
      case atStart => exact ⟨0, [], by omega, by simp, rfl, ⟨Kd.R_nil _ _ _ _ _⟩, HW2, ⟨rfl⟩⟩
      case round =>
        obtain ⟨j, dn, hj, hdn, rfl, HO, HB, HE⟩ := hrel
        by_cases hlt : j < l.length - i
        · have h4 : (j : Int) < ((l.length - i : Nat) : Int) := by omega
          have h4' : decide (j < l.length - i) = true := dt hlt
          obtain ⟨ad', hadd, HI⟩ := kP_hold HD.out j (by rw [HDL.out]; exact hlt)
          obtain rfl : ad.add (i * 3) = ad' := by injection hadd
          clear hadd
          rw [pat_drop] at HI
          obtain ⟨c0, c1, c2⟩ := HI.out _ HB.out
          have HS := Aside0.mk (covG_step (l := l) (j := i + j) (by omega) f t)
          have HOUT : Aside0 (outB (pat l (i + j)) f t = false) := ⟨by unfold outB; rw [TE.out]; rfl⟩
          have HEND : Aside0 (endB (pat l (i + j)).to_ t = (pat l (i + j)).to_) := ⟨by unfold endB; rw [TE.out]; rfl⟩
          go_wp2_with (at_builtin; refine Kd.R_append kP (w0 := w) (W := wr.alloc (.cells #[.string (mxB (pat l (i + j)).from_ f), .string (pat l (i + j)).to_, .int .u64 (pat l (i + j)).group] 27)) w.heap.size rfl (.tmp 73) (.tmp 75) 30 27 (.agg #[(.string ⟨#[]⟩), (.string ⟨#[]⟩), (.int .u64 0)]) 40 rfl Try.underlying30 info27 rfl (by decide) (by omega) u6 dn ⟨mxB (pat l (i + j)).from_ f, (pat l (i + j)).to_, (pat l (i + j)).group⟩ _ (fun _ => True) (fun _ => False) rfl ?hx (kP_mkM _ _ _ ⟨mxB (pat l (i + j)).from_ f, (pat l (i + j)).to_, (pat l (i + j)).group⟩) (fun _ hk => hk.elim) (fun _ _ => trivial) (Kd.R_alloc HO.out _) (HB.out.alloc HB.out.size _) (by have := HB.out.size; simp; omega) (by omega) ?_; (case hx => simp [Act.eval]); intro v1 x1 ho hb _ _; have HO1 := Aside0.mk ho; have HB1 := Aside0.mk hb; clear ho hb)
          have he := HE.out
          rw [HS.out, if_neg (by rw [HOUT.out]; simp)] at he
          have HE1 : Aside0 (covG (l.drop i) f t = (dn ++ [⟨mxB (pat l (i + j)).from_ f, (pat l (i + j)).to_, (pat l (i + j)).group⟩]) ++ covG (l.drop (i + (j + 1))) f t) := ⟨by
            rw [he, List.append_assoc]
            have e2 : cutP (pat l (i + j)) f t = ⟨mxB (pat l (i + j)).from_ f, (pat l (i + j)).to_, (pat l (i + j)).group⟩ := by unfold cutP; rw [HEND.out]
            rw [e2]
            rfl⟩
          clear he
          go_roundw
          case rel => exact ⟨j + 1, _, by omega, by simp; omega, by go_num, HO1, HB1, HE1⟩
          case measure => simp [intOf]; omega
        · obtain rfl : j = l.length - i := by omega
          have hE := HE.out
          rw [show i + (l.length - i) = l.length by omega, List.drop_eq_nil_of_le (Nat.le_refl _)] at hE
          have hE2 : covG (l.drop i) f t = dn := by rw [hE]; simp [covG]
          have HE2 := Aside0.mk hE2
          have h4' : decide (l.length - i < l.length - i) = false := df (by omega)
          clear hE hE2
          go_wp2_with fail
          go_ret2
          rw [HE2.out]
          exact ⟨_, rfl, HO.out, HB.out⟩
  · have te' : t.toList.isEmpty = false := te
    have te2 : (!t.toList.isEmpty) = true := by rw [te']; rfl
    have TE := Aside0.mk te
    have hlf : belowB f t = true := by rw [te] at hb; exact hb
    have hlf1 : (Op.bytesLess t.toList f.toList || t.toList == f.toList) = false := by rw [leq_below, hlf]; rfl
    clear te hb hlf
    by_cases hft : f.size < t.size
    all_goals
      go_enter Try.func16, Try.ntmps16
      go_wp2_with fail
      refine (right_any _ _ l _ HR.out (by omega)).mono ?_
      rintro e w1 ⟨rfl, hb1⟩
      rw [HK.out]
      have HW1 := Aside0.mk hb1
      clear hb1
      go_wp2_with fail
      refine (place_any _ _ l f _ (Kd.C_below HR.out HW1.out) hc (by omega)).mono ?_
      rintro e w2 ⟨rfl, hb2⟩
      rw [HP.out]
      have HW2 := Aside0.mk (HW1.out.trans (hb2.mono HW1.out.size))
      clear hb2
      go_wp2_with fail
      go_loopw [6, 41] (fun v vj w' => ∃ (j : Nat) (dn : List Part), j ≤ l.length - i ∧ dn.length ≤ j ∧ vj = .int .i64 j ∧ Aside0 (Kd.R kP 27 w' w.heap.size (fun _ => True) v dn) ∧ Aside0 (Below w.heap.size w w') ∧ Aside0 (covG (l.drop i) f t = dn ++ covG (l.drop (i + j)) f t)) (fun _ vj _ => (l.length - i) - (intOf vj).toNat)
      case atStart => exact ⟨0, [], by omega, by simp, rfl, ⟨Kd.R_nil _ _ _ _ _⟩, HW2, ⟨rfl⟩⟩
      case round =>
        obtain ⟨j, dn, hj, hdn, rfl, HO, HB, HE⟩ := hrel
        by_cases hlt : j < l.length - i
        · have h4 : (j : Int) < ((l.length - i : Nat) : Int) := by omega
          have h4' : decide (j < l.length - i) = true := dt hlt
          obtain ⟨ad', hadd, HI⟩ := kP_hold HD.out j (by rw [HDL.out]; exact hlt)
          obtain rfl : ad.add (i * 3) = ad' := by injection hadd
          clear hadd
          rw [pat_drop] at HI
          obtain ⟨c0, c1, c2⟩ := HI.out _ HB.out
          have HS := Aside0.mk (covG_step (l := l) (j := i + j) (by omega) f t)
          rcases Bool.eq_false_or_eq_true (belowB (mxB (pat l (i + j)).from_ f) t) with b1 | b1
          · have g1 : (!Op.bytesLess (mxB (pat l (i + j)).from_ f).toList t.toList) = false := by rw [geq_below, b1]; rfl
            have g1' : Op.bytesLess (mxB (pat l (i + j)).from_ f).toList t.toList = true := by rw [less_below, b1]
            have HOUT : Aside0 (outB (pat l (i + j)) f t = false) := ⟨by unfold outB; rw [b1]; simp⟩
            clear b1
            rcases Bool.eq_false_or_eq_true (emB (pat l (i + j)).to_) with b2 | b2
            · have g2 : (pat l (i + j)).to_.toList.isEmpty = true := b2
              have HEND : Aside0 (endB (pat l (i + j)).to_ t = t) := ⟨by unfold endB; rw [TE.out, b2]; rfl⟩
              clear b2
              go_wp2_with (at_builtin; refine Kd.R_append kP (w0 := w) (W := wr.alloc (.cells #[.string (mxB (pat l (i + j)).from_ f), .string t, .int .u64 (pat l (i + j)).group] 27)) w.heap.size rfl (.tmp 73) (.tmp 75) 30 27 (.agg #[(.string ⟨#[]⟩), (.string ⟨#[]⟩), (.int .u64 0)]) 40 rfl Try.underlying30 info27 rfl (by decide) (by omega) u6 dn ⟨mxB (pat l (i + j)).from_ f, t, (pat l (i + j)).group⟩ _ (fun _ => True) (fun _ => False) rfl ?hx (kP_mkM _ _ _ ⟨mxB (pat l (i + j)).from_ f, t, (pat l (i + j)).group⟩) (fun _ hk => hk.elim) (fun _ _ => trivial) (Kd.R_alloc HO.out _) (HB.out.alloc HB.out.size _) (by have := HB.out.size; simp; omega) (by omega) ?_; (case hx => simp [Act.eval]); intro v1 x1 ho hb _ _; have HO1 := Aside0.mk ho; have HB1 := Aside0.mk hb; clear ho hb)
              have he := HE.out
              rw [HS.out, if_neg (by rw [HOUT.out]; simp)] at he
              have HE1 : Aside0 (covG (l.drop i) f t = (dn ++ [⟨mxB (pat l (i + j)).from_ f, t, (pat l (i + j)).group⟩]) ++ covG (l.drop (i + (j + 1))) f t) := ⟨by
                rw [he, List.append_assoc]
                have e2 : cutP (pat l (i + j)) f t = ⟨mxB (pat l (i + j)).from_ f, t, (pat l (i + j)).group⟩ := by unfold cutP; rw [HEND.out]
                rw [e2]
                rfl⟩
              clear he
              go_roundw
              case rel => exact ⟨j + 1, _, by omega, by simp; omega, by go_num, HO1, HB1, HE1⟩
              case measure => simp [intOf]; omega
            · have g2 : (pat l (i + j)).to_.toList.isEmpty = false := b2
              rcases Bool.eq_false_or_eq_true (belowB t (pat l (i + j)).to_) with b3 | b3
              · have g3 : (!Op.bytesLess (pat l (i + j)).to_.toList t.toList && !((pat l (i + j)).to_.toList == t.toList)) = true := by rw [gtr_below, b3]
                have HEND : Aside0 (endB (pat l (i + j)).to_ t = t) := ⟨by unfold endB; rw [TE.out, b2, b3]; rfl⟩
                clear b2 b3
                go_wp2_with (at_builtin; refine Kd.R_append kP (w0 := w) (W := wr.alloc (.cells #[.string (mxB (pat l (i + j)).from_ f), .string t, .int .u64 (pat l (i + j)).group] 27)) w.heap.size rfl (.tmp 73) (.tmp 75) 30 27 (.agg #[(.string ⟨#[]⟩), (.string ⟨#[]⟩), (.int .u64 0)]) 40 rfl Try.underlying30 info27 rfl (by decide) (by omega) u6 dn ⟨mxB (pat l (i + j)).from_ f, t, (pat l (i + j)).group⟩ _ (fun _ => True) (fun _ => False) rfl ?hx (kP_mkM _ _ _ ⟨mxB (pat l (i + j)).from_ f, t, (pat l (i + j)).group⟩) (fun _ hk => hk.elim) (fun _ _ => trivial) (Kd.R_alloc HO.out _) (HB.out.alloc HB.out.size _) (by have := HB.out.size; simp; omega) (by omega) ?_; (case hx => simp [Act.eval]); intro v1 x1 ho hb _ _; have HO1 := Aside0.mk ho; have HB1 := Aside0.mk hb; clear ho hb)
                have he := HE.out
                rw [HS.out, if_neg (by rw [HOUT.out]; simp)] at he
                have HE1 : Aside0 (covG (l.drop i) f t = (dn ++ [⟨mxB (pat l (i + j)).from_ f, t, (pat l (i + j)).group⟩]) ++ covG (l.drop (i + (j + 1))) f t) := ⟨by
                  rw [he, List.append_assoc]
                  have e2 : cutP (pat l (i + j)) f t = ⟨mxB (pat l (i + j)).from_ f, t, (pat l (i + j)).group⟩ := by unfold cutP; rw [HEND.out]
                  rw [e2]
                  rfl⟩
                clear he
                go_roundw
                case rel => exact ⟨j + 1, _, by omega, by simp; omega, by go_num, HO1, HB1, HE1⟩
                case measure => simp [intOf]; omega
              · have g3 : (!Op.bytesLess (pat l (i + j)).to_.toList t.toList && !((pat l (i + j)).to_.toList == t.toList)) = false := by rw [gtr_below, b3]
                have HEND : Aside0 (endB (pat l (i + j)).to_ t = (pat l (i + j)).to_) := ⟨by unfold endB; rw [TE.out, b2, b3]; rfl⟩
                clear b2 b3
                go_wp2_with (at_builtin; refine Kd.R_append kP (w0 := w) (W := wr.alloc (.cells #[.string (mxB (pat l (i + j)).from_ f), .string (pat l (i + j)).to_, .int .u64 (pat l (i + j)).group] 27)) w.heap.size rfl (.tmp 73) (.tmp 75) 30 27 (.agg #[(.string ⟨#[]⟩), (.string ⟨#[]⟩), (.int .u64 0)]) 40 rfl Try.underlying30 info27 rfl (by decide) (by omega) u6 dn ⟨mxB (pat l (i + j)).from_ f, (pat l (i + j)).to_, (pat l (i + j)).group⟩ _ (fun _ => True) (fun _ => False) rfl ?hx (kP_mkM _ _ _ ⟨mxB (pat l (i + j)).from_ f, (pat l (i + j)).to_, (pat l (i + j)).group⟩) (fun _ hk => hk.elim) (fun _ _ => trivial) (Kd.R_alloc HO.out _) (HB.out.alloc HB.out.size _) (by have := HB.out.size; simp; omega) (by omega) ?_; (case hx => simp [Act.eval]); intro v1 x1 ho hb _ _; have HO1 := Aside0.mk ho; have HB1 := Aside0.mk hb; clear ho hb)
                have he := HE.out
                rw [HS.out, if_neg (by rw [HOUT.out]; simp)] at he
                have HE1 : Aside0 (covG (l.drop i) f t = (dn ++ [⟨mxB (pat l (i + j)).from_ f, (pat l (i + j)).to_, (pat l (i + j)).group⟩]) ++ covG (l.drop (i + (j + 1))) f t) := ⟨by
                  rw [he, List.append_assoc]
                  have e2 : cutP (pat l (i + j)) f t = ⟨mxB (pat l (i + j)).from_ f, (pat l (i + j)).to_, (pat l (i + j)).group⟩ := by unfold cutP; rw [HEND.out]
                  rw [e2]
                  rfl⟩
                clear he
                go_roundw
                case rel => exact ⟨j + 1, _, by omega, by simp; omega, by go_num, HO1, HB1, HE1⟩
                case measure => simp [intOf]; omega
          · have g1 : (!Op.bytesLess (mxB (pat l (i + j)).from_ f).toList t.toList) = true := by rw [geq_below, b1]; rfl
            have g1' : Op.bytesLess (mxB (pat l (i + j)).from_ f).toList t.toList = false := by rw [less_below, b1]
            have HOUT : Aside0 (outB (pat l (i + j)) f t = true) := ⟨by unfold outB; rw [TE.out, b1]; rfl⟩
            clear b1
            have he := HE.out
            rw [HS.out, if_pos HOUT.out, List.append_nil] at he
            have HE2 := Aside0.mk he
            clear he
            go_wp2_with fail
            go_ret2
            rw [HE2.out]
            exact ⟨_, rfl, Kd.R_alloc HO.out _, HB.out.alloc HB.out.size _⟩
        · obtain rfl : j = l.length - i := by omega
          have hE := HE.out
          rw [show i + (l.length - i) = l.length by omega, List.drop_eq_nil_of_le (Nat.le_refl _)] at hE
          have hE2 : covG (l.drop i) f t = dn := by rw [hE]; simp [covG]
          have HE2 := Aside0.mk hE2
          have h4' : decide (l.length - i < l.length - i) = false := df (by omega)
          clear hE hE2
          go_wp2_with fail
          go_ret2
          rw [HE2.out]
          exact ⟨_, rfl, HO.out, HB.out⟩

set_option maxHeartbeats 4000000 in
set_option maxRecDepth 100000 in
theorem cover_any (A : Option Addr) (c : Nat) (l : List Part) (f t : ByteArray) (w : World) (hr : Kd.C kP w A l.length l) (hc : l.length ≤ c) (hl : l.length ≤ 1000) (hf : f.size ≤ 1000000) (ht : t.size ≤ 1000000) :
    Calls Try.prog 16 #[.slice A l.length c, .string f, .string t] w fun e w' => ∃ v, e = .returned (.tuple #[v, .int .i64 (coverK l f t)]) ∧ Kd.R kP 27 w' w.heap.size (fun _ => True) v (coverR l f t) ∧ Below w.heap.size w w' := by
  have HR := Aside0.mk hr
  rcases Bool.eq_false_or_eq_true (rightB l) with hi | hi
  · have hk : rightK l = 0 := by unfold rightK; rw [hi]; rfl
    have HK := Aside0.mk hk
    by_cases hbig : 32 < f.size ∨ 32 < t.size
    · have hs : coverK l f t = 1 := by unfold coverK; rw [hi, if_pos rfl, if_pos hbig]
      have hsr : coverR l f t = [] := by unfold coverR; rw [hs]; simp
      rw [hs, hsr]
      by_cases hft : f.size < t.size
      · have d2 : decide (32 < t.size) = true := dt (by omega)
        have d2' : decide ((32 : Int) < (t.size : Int)) = true := dt (by omega)
        clear hr hi hk hs hsr
        go_enter Try.func16, Try.ntmps16
        go_wp2_with fail
        refine (right_any _ _ l _ HR.out (by omega)).mono ?_
        rintro e w1 ⟨rfl, hb1⟩
        rw [HK.out]
        have HW1 := Aside0.mk hb1
        clear hb1
        go_wp2_with fail
        go_ret2
        exact ⟨_, rfl, Kd.R_nil _ _ _ _ _, HW1.out⟩
      · have d2 : decide (32 < f.size) = true := dt (by omega)
        have d2' : decide ((32 : Int) < (f.size : Int)) = true := dt (by omega)
        clear hr hi hk hs hsr
        go_enter Try.func16, Try.ntmps16
        go_wp2_with fail
        refine (right_any _ _ l _ HR.out (by omega)).mono ?_
        rintro e w1 ⟨rfl, hb1⟩
        rw [HK.out]
        have HW1 := Aside0.mk hb1
        clear hb1
        go_wp2_with fail
        go_ret2
        exact ⟨_, rfl, Kd.R_nil _ _ _ _ _, HW1.out⟩
    · have hs : coverK l f t = 0 := by unfold coverK; rw [hi, if_pos rfl, if_neg hbig]
      rcases Bool.eq_false_or_eq_true (emB t || belowB f t) with hb | hb
      · have hsr : coverR l f t = covG (l.drop (plI l f).toNat) f t := by unfold coverR; rw [hs, if_pos ⟨rfl, hb⟩]
        rw [hs, hsr]
        exact cover_yes A c l f t w hr hc hi (by omega) (by omega) hb
      · have hsr : coverR l f t = [] := by unfold coverR; rw [hb]; simp
        rw [hs, hsr]
        simp only [Bool.or_eq_false_iff] at hb
        have te' : t.toList.isEmpty = false := hb.1
        have te2 : (!t.toList.isEmpty) = true := by rw [te']; rfl
        have hlf1 : (Op.bytesLess t.toList f.toList || t.toList == f.toList) = true := by rw [leq_below, hb.2]; rfl
        have hb5 : decide (32 < f.size) = false := df (by omega)
        have hb6 : decide (32 < t.size) = false := df (by omega)
        have hb5' : decide ((32 : Int) < (f.size : Int)) = false := df (by omega)
        have hb6' : decide ((32 : Int) < (t.size : Int)) = false := df (by omega)
        clear hr hi hk hs hsr hb
        by_cases hft : f.size < t.size
        all_goals
          go_enter Try.func16, Try.ntmps16
          go_wp2_with fail
          refine (right_any _ _ l _ HR.out (by omega)).mono ?_
          rintro e w1 ⟨rfl, hb1⟩
          rw [HK.out]
          have HW1 := Aside0.mk hb1
          clear hb1
          go_wp2_with fail
          go_ret2
          exact ⟨_, rfl, Kd.R_nil _ _ _ _ _, HW1.out⟩
  · have hk : rightK l = 3 := by unfold rightK; rw [hi]; rfl
    have hs : coverK l f t = 3 := by unfold coverK; rw [hi]; rfl
    have hsr : coverR l f t = [] := by unfold coverR; rw [hs]; simp
    rw [hs, hsr]
    have HK := Aside0.mk hk
    clear hr hk hi hs hsr
    go_enter Try.func16, Try.ntmps16
    go_wp2_with fail
    refine (right_any _ _ l _ HR.out (by omega)).mono ?_
    rintro e w1 ⟨rfl, hb1⟩
    rw [HK.out]
    go_wp2_with fail
    go_ret2
    exact ⟨_, rfl, Kd.R_nil _ _ _ _ _, hb1⟩
end Go.Proofs.Ytoemddjolfblbaa
