/- Cover of the reference: its kind, and the parts that it tells. -/
import Derived.Test.YtoemddjolfblbaaT
import Derived.Test.YtoemddjolfblbaaG
set_option linter.unusedVariables false
set_option linter.unusedSimpArgs false
namespace Go.Proofs.Ytoemddjolfblbaa
open Go.RowKit Go.Proofs.YtoemddjolfblbaaW.PrintWords

theorem bl_set {wr W : World} (h : Below wr.heap.size wr W) (k : Nat) (u : Value) : Below wr.heap.size wr (W.setCell ⟨wr.heap.size, k, none⟩ u) := h.setCell (Nat.le_refl _) u
theorem bl_alloc {wr W : World} (h : Below wr.heap.size wr W) (o : Obj) : Below wr.heap.size wr (W.alloc o) := h.alloc h.size o
theorem bl_drewN {wr W : World} (h : Below wr.heap.size wr W) (n : Nat) : Below wr.heap.size wr (W.drewN n) := pw_drewN h n
def keepB (p : Part) (f t : ByteArray) : Bool := emB (endB p.to_ t) || belowB (mxB p.from_ f) (endB p.to_ t)
def refG : List Part → ByteArray → ByteArray → List Part
  | [], _, _ => []
  | p :: r, f, t => if keepB p f t then cutP p f t :: refG r f t else refG r f t
theorem refG_step {l : List Part} {j : Nat} (hj : j < l.length) (f t : ByteArray) : refG (l.drop j) f t = if keepB (pat l j) f t then cutP (pat l j) f t :: refG (l.drop (j + 1)) f t else refG (l.drop (j + 1)) f t := by
  rw [List.drop_eq_getElem_cons hj]
  have e : l[j] = pat l j := by simp [pat, List.getD_eq_getElem?_getD, List.getElem?_eq_getElem hj]
  rw [e]
  rfl
def refCoverR (l : List Part) (f t : ByteArray) : List Part := if coverK l f t = 0 then refG l f t else []

set_option maxHeartbeats 8000000 in
set_option maxRecDepth 100000 in
theorem rcover_yes (A : Option Addr) (c : Nat) (l : List Part) (f t : ByteArray) (w : World) (hr : Kd.C kP w A l.length l) (hl : l.length ≤ 1000) (hs : ∀ k, k < l.length → (pat l k).from_.size ≤ 1000000 ∧ (pat l k).to_.size ≤ 1000000) (hR : rightB l = true) (hf : f.size ≤ 32) (ht : t.size ≤ 32) :
    Calls Try.prog 17 #[.slice A l.length c, .string f, .string t] w fun e w' => ∃ v, e = .returned (.tuple #[v, .int .i64 0]) ∧ Kd.R kP 32 w' w.heap.size (fun _ => True) v (refG l f t) ∧ Below w.heap.size w w' := by
  have HR := Aside0.mk hr
  have HI := Aside0.mk hR
  have HZ := Aside0.mk hs
  have HF : Aside0 (∀ k, k < l.length → (pat l k).from_.size ≤ 1000000) := ⟨fun k hk => (hs k hk).1⟩
  clear hr hR hs
  have zf : f.size ≤ 1000000 := by omega
  have zt : t.size ≤ 1000000 := by omega
  have hb5 : decide (32 < f.size) = false := df (by omega)
  have hb6 : decide (32 < t.size) = false := df (by omega)
  have hb5' : decide ((32 : Int) < (f.size : Int)) = false := df (by omega)
  have hb6' : decide ((32 : Int) < (t.size : Int)) = false := df (by omega)
  go_enter Try.func17, Try.ntmps17
  go_wp2_with fail
  refine (rright_any _ _ l _ HR.out (by omega) HF.out).mono ?_
  rintro e w1 ⟨rfl, ⟨d, rfl⟩⟩
  rw [HI.out]
  go_wp2_with fail
  go_loopw [8, 9] (fun v vj w' => ∃ (j : Nat) (dn : List Part), j ≤ l.length ∧ dn.length ≤ j ∧ vj = .int .i64 j ∧ Aside0 (Kd.R kP 32 w' w.heap.size (fun _ => True) v dn) ∧ Aside0 (Below w.heap.size w w') ∧ Aside0 (refG l f t = dn ++ refG (l.drop j) f t)) (fun _ vj _ => l.length - (intOf vj).toNat)
  case atStart => exact ⟨0, [], by omega, by simp, rfl, ⟨Kd.R_nil _ _ _ _ _⟩, ⟨pw_drewN (Below.refl _ _) d⟩, ⟨rfl⟩⟩
  case round =>
    obtain ⟨j, dn, hj, hdn, rfl, HO, HB, HE⟩ := hrel
    by_cases hlt : j < l.length
    · have h4 : (j : Int) < (l.length : Int) := by omega
      have h4' : decide (j < l.length) = true := dt hlt
      obtain ⟨ad, rfl, HH⟩ := kP_hold HR.out j hlt
      obtain ⟨c0, c1, c2⟩ := HH.out _ HB.out
      have HS := Aside0.mk (refG_step hlt f t)
      have z1 := (HZ.out j hlt).1
      have z2 := (HZ.out j hlt).2
      rcases Bool.eq_false_or_eq_true (belowB (pat l j).from_ f) with b1 | b1
      · have HM1 : Aside0 (mxB (pat l j).from_ f = f) := ⟨by unfold mxB; rw [b1]; rfl⟩
        rcases Bool.eq_false_or_eq_true (emB t) with te | te
        · have HM2 : Aside0 (endB (pat l j).to_ t = (pat l j).to_) := ⟨by unfold endB; rw [te]; rfl⟩
          have te' : t.toList.isEmpty = true := te
          have te2 : (!t.toList.isEmpty) = false := by rw [te']; rfl
          rcases Bool.eq_false_or_eq_true (emB (pat l j).to_) with e4 | e4
          · have HK : Aside0 (keepB (pat l j) f t = true) := ⟨by unfold keepB; rw [HM2.out, e4]; rfl⟩
            have e4' : ((pat l j).to_).toList.isEmpty = true := e4
            clear e4
            have HM : Aside0 (cutP (pat l j) f t = ⟨f, (pat l j).to_, (pat l j).group⟩) := ⟨by unfold cutP; rw [HM1.out, HM2.out]⟩
            go_wp2_with (first | (go_at_call 26; refine (below_any _ _ _ (by assumption) (by assumption)).mono ?_; rintro e w' ⟨rfl, n, rfl⟩) | (at_builtin; refine Kd.R_append kP (w0 := w) w.heap.size rfl (.tmp 63) (.tmp 65) 22 32 (.agg #[(.string ⟨#[]⟩), (.string ⟨#[]⟩), (.int .u64 0)]) 40 rfl Try.underlying22 info32 rfl (by decide) (by omega) u8 dn ⟨f, (pat l j).to_, (pat l j).group⟩ _ (fun _ => True) (fun _ => False) rfl ?hx (kP_mkM _ _ _ ⟨f, (pat l j).to_, (pat l j).group⟩) (fun _ hk => hk.elim) (fun _ _ => trivial) ?hO ?hB ?hS (by omega) ?_; (case hx => simp [Act.eval]); (case hO => exact Kd.R_below HO.out (by (repeat (first | exact Below.refl _ _ | apply bl_set | apply bl_alloc | apply bl_drewN)))); (case hB => exact HB.out.trans (Below.mono (B := wr.heap.size) (by (repeat (first | exact Below.refl _ _ | apply bl_set | apply bl_alloc | apply bl_drewN))) HB.out.size)); (case hS => exact Nat.le_trans HB.out.size (Below.size (B := wr.heap.size) (w := wr) (by (repeat (first | exact Below.refl _ _ | apply bl_set | apply bl_alloc | apply bl_drewN))))); intro v1 x1 ho hb _ _; have HO1 := Aside0.mk ho; have HB1 := Aside0.mk hb; clear ho hb))
            have HE1 : Aside0 (refG l f t = (dn ++ [⟨f, (pat l j).to_, (pat l j).group⟩]) ++ refG (l.drop (j + 1)) f t) := ⟨by rw [HE.out, HS.out, if_pos HK.out, HM.out, List.append_assoc]; rfl⟩
            go_roundw
            case rel => exact ⟨j + 1, _, by omega, by simp; omega, by go_num, HO1, HB1, HE1⟩
            case measure => simp [intOf]; omega
          · have e4' : ((pat l j).to_).toList.isEmpty = false := e4
            rcases Bool.eq_false_or_eq_true (belowB f (pat l j).to_) with b5 | b5
            · have HK : Aside0 (keepB (pat l j) f t = true) := ⟨by unfold keepB; rw [HM1.out, HM2.out, b5]; simp⟩
              have HM : Aside0 (cutP (pat l j) f t = ⟨f, (pat l j).to_, (pat l j).group⟩) := ⟨by unfold cutP; rw [HM1.out, HM2.out]⟩
              go_wp2_with (first | (go_at_call 26; refine (below_any _ _ _ (by assumption) (by assumption)).mono ?_; rintro e w' ⟨rfl, n, rfl⟩) | (at_builtin; refine Kd.R_append kP (w0 := w) w.heap.size rfl (.tmp 63) (.tmp 65) 22 32 (.agg #[(.string ⟨#[]⟩), (.string ⟨#[]⟩), (.int .u64 0)]) 40 rfl Try.underlying22 info32 rfl (by decide) (by omega) u8 dn ⟨f, (pat l j).to_, (pat l j).group⟩ _ (fun _ => True) (fun _ => False) rfl ?hx (kP_mkM _ _ _ ⟨f, (pat l j).to_, (pat l j).group⟩) (fun _ hk => hk.elim) (fun _ _ => trivial) ?hO ?hB ?hS (by omega) ?_; (case hx => simp [Act.eval]); (case hO => exact Kd.R_below HO.out (by (repeat (first | exact Below.refl _ _ | apply bl_set | apply bl_alloc | apply bl_drewN)))); (case hB => exact HB.out.trans (Below.mono (B := wr.heap.size) (by (repeat (first | exact Below.refl _ _ | apply bl_set | apply bl_alloc | apply bl_drewN))) HB.out.size)); (case hS => exact Nat.le_trans HB.out.size (Below.size (B := wr.heap.size) (w := wr) (by (repeat (first | exact Below.refl _ _ | apply bl_set | apply bl_alloc | apply bl_drewN))))); intro v1 x1 ho hb _ _; have HO1 := Aside0.mk ho; have HB1 := Aside0.mk hb; clear ho hb))
              have HE1 : Aside0 (refG l f t = (dn ++ [⟨f, (pat l j).to_, (pat l j).group⟩]) ++ refG (l.drop (j + 1)) f t) := ⟨by rw [HE.out, HS.out, if_pos HK.out, HM.out, List.append_assoc]; rfl⟩
              go_roundw
              case rel => exact ⟨j + 1, _, by omega, by simp; omega, by go_num, HO1, HB1, HE1⟩
              case measure => simp [intOf]; omega
            · have HK : Aside0 (keepB (pat l j) f t = false) := ⟨by unfold keepB; rw [HM1.out, HM2.out, b5]; rw [e4]; rfl⟩
              have HM : Aside0 (cutP (pat l j) f t = ⟨f, (pat l j).to_, (pat l j).group⟩) := ⟨by unfold cutP; rw [HM1.out, HM2.out]⟩
              go_wp2_with (first | (go_at_call 26; refine (below_any _ _ _ (by assumption) (by assumption)).mono ?_; rintro e w' ⟨rfl, n, rfl⟩))
              have HE1 : Aside0 (refG l f t = dn ++ refG (l.drop (j + 1)) f t) := ⟨by rw [HE.out, HS.out, if_neg (by rw [HK.out]; simp)]⟩
              go_roundw
              case rel => exact ⟨j + 1, dn, by omega, by omega, by go_num, ⟨Kd.R_below HO.out (by (repeat (first | exact Below.refl _ _ | apply bl_set | apply bl_alloc | apply bl_drewN)))⟩, ⟨HB.out.trans (Below.mono (B := wr.heap.size) (by (repeat (first | exact Below.refl _ _ | apply bl_set | apply bl_alloc | apply bl_drewN))) HB.out.size)⟩, HE1⟩
              case measure => simp [intOf]; omega
        · have te' : t.toList.isEmpty = false := te
          have te2 : (!t.toList.isEmpty) = true := by rw [te']; rfl
          rcases Bool.eq_false_or_eq_true (emB (pat l j).to_) with b2 | b2
          · have HM2 : Aside0 (endB (pat l j).to_ t = t) := ⟨by unfold endB; rw [te, b2]; rfl⟩
            have e2 : (pat l j).to_.toList.isEmpty = true := b2
            have e4 : emB t = false := te
            rcases Bool.eq_false_or_eq_true (belowB f t) with b5 | b5
            · have HK : Aside0 (keepB (pat l j) f t = true) := ⟨by unfold keepB; rw [HM1.out, HM2.out, b5]; simp⟩
              have HM : Aside0 (cutP (pat l j) f t = ⟨f, t, (pat l j).group⟩) := ⟨by unfold cutP; rw [HM1.out, HM2.out]⟩
              go_wp2_with (first | (go_at_call 26; refine (below_any _ _ _ (by assumption) (by assumption)).mono ?_; rintro e w' ⟨rfl, n, rfl⟩) | (at_builtin; refine Kd.R_append kP (w0 := w) w.heap.size rfl (.tmp 63) (.tmp 65) 22 32 (.agg #[(.string ⟨#[]⟩), (.string ⟨#[]⟩), (.int .u64 0)]) 40 rfl Try.underlying22 info32 rfl (by decide) (by omega) u8 dn ⟨f, t, (pat l j).group⟩ _ (fun _ => True) (fun _ => False) rfl ?hx (kP_mkM _ _ _ ⟨f, t, (pat l j).group⟩) (fun _ hk => hk.elim) (fun _ _ => trivial) ?hO ?hB ?hS (by omega) ?_; (case hx => simp [Act.eval]); (case hO => exact Kd.R_below HO.out (by (repeat (first | exact Below.refl _ _ | apply bl_set | apply bl_alloc | apply bl_drewN)))); (case hB => exact HB.out.trans (Below.mono (B := wr.heap.size) (by (repeat (first | exact Below.refl _ _ | apply bl_set | apply bl_alloc | apply bl_drewN))) HB.out.size)); (case hS => exact Nat.le_trans HB.out.size (Below.size (B := wr.heap.size) (w := wr) (by (repeat (first | exact Below.refl _ _ | apply bl_set | apply bl_alloc | apply bl_drewN))))); intro v1 x1 ho hb _ _; have HO1 := Aside0.mk ho; have HB1 := Aside0.mk hb; clear ho hb))
              have HE1 : Aside0 (refG l f t = (dn ++ [⟨f, t, (pat l j).group⟩]) ++ refG (l.drop (j + 1)) f t) := ⟨by rw [HE.out, HS.out, if_pos HK.out, HM.out, List.append_assoc]; rfl⟩
              go_roundw
              case rel => exact ⟨j + 1, _, by omega, by simp; omega, by go_num, HO1, HB1, HE1⟩
              case measure => simp [intOf]; omega
            · have HK : Aside0 (keepB (pat l j) f t = false) := ⟨by unfold keepB; rw [HM1.out, HM2.out, b5]; rw [e4]; rfl⟩
              have HM : Aside0 (cutP (pat l j) f t = ⟨f, t, (pat l j).group⟩) := ⟨by unfold cutP; rw [HM1.out, HM2.out]⟩
              go_wp2_with (first | (go_at_call 26; refine (below_any _ _ _ (by assumption) (by assumption)).mono ?_; rintro e w' ⟨rfl, n, rfl⟩))
              have HE1 : Aside0 (refG l f t = dn ++ refG (l.drop (j + 1)) f t) := ⟨by rw [HE.out, HS.out, if_neg (by rw [HK.out]; simp)]⟩
              go_roundw
              case rel => exact ⟨j + 1, dn, by omega, by omega, by go_num, ⟨Kd.R_below HO.out (by (repeat (first | exact Below.refl _ _ | apply bl_set | apply bl_alloc | apply bl_drewN)))⟩, ⟨HB.out.trans (Below.mono (B := wr.heap.size) (by (repeat (first | exact Below.refl _ _ | apply bl_set | apply bl_alloc | apply bl_drewN))) HB.out.size)⟩, HE1⟩
              case measure => simp [intOf]; omega
          · have e2 : (pat l j).to_.toList.isEmpty = false := b2
            rcases Bool.eq_false_or_eq_true (belowB t (pat l j).to_) with b3 | b3
            · have HM2 : Aside0 (endB (pat l j).to_ t = t) := ⟨by unfold endB; rw [te, b2, b3]; rfl⟩
              have e4 : emB t = false := te
              rcases Bool.eq_false_or_eq_true (belowB f t) with b5 | b5
              · have HK : Aside0 (keepB (pat l j) f t = true) := ⟨by unfold keepB; rw [HM1.out, HM2.out, b5]; simp⟩
                have HM : Aside0 (cutP (pat l j) f t = ⟨f, t, (pat l j).group⟩) := ⟨by unfold cutP; rw [HM1.out, HM2.out]⟩
                go_wp2_with (first | (go_at_call 26; refine (below_any _ _ _ (by assumption) (by assumption)).mono ?_; rintro e w' ⟨rfl, n, rfl⟩) | (at_builtin; refine Kd.R_append kP (w0 := w) w.heap.size rfl (.tmp 63) (.tmp 65) 22 32 (.agg #[(.string ⟨#[]⟩), (.string ⟨#[]⟩), (.int .u64 0)]) 40 rfl Try.underlying22 info32 rfl (by decide) (by omega) u8 dn ⟨f, t, (pat l j).group⟩ _ (fun _ => True) (fun _ => False) rfl ?hx (kP_mkM _ _ _ ⟨f, t, (pat l j).group⟩) (fun _ hk => hk.elim) (fun _ _ => trivial) ?hO ?hB ?hS (by omega) ?_; (case hx => simp [Act.eval]); (case hO => exact Kd.R_below HO.out (by (repeat (first | exact Below.refl _ _ | apply bl_set | apply bl_alloc | apply bl_drewN)))); (case hB => exact HB.out.trans (Below.mono (B := wr.heap.size) (by (repeat (first | exact Below.refl _ _ | apply bl_set | apply bl_alloc | apply bl_drewN))) HB.out.size)); (case hS => exact Nat.le_trans HB.out.size (Below.size (B := wr.heap.size) (w := wr) (by (repeat (first | exact Below.refl _ _ | apply bl_set | apply bl_alloc | apply bl_drewN))))); intro v1 x1 ho hb _ _; have HO1 := Aside0.mk ho; have HB1 := Aside0.mk hb; clear ho hb))
                have HE1 : Aside0 (refG l f t = (dn ++ [⟨f, t, (pat l j).group⟩]) ++ refG (l.drop (j + 1)) f t) := ⟨by rw [HE.out, HS.out, if_pos HK.out, HM.out, List.append_assoc]; rfl⟩
                go_roundw
                case rel => exact ⟨j + 1, _, by omega, by simp; omega, by go_num, HO1, HB1, HE1⟩
                case measure => simp [intOf]; omega
              · have HK : Aside0 (keepB (pat l j) f t = false) := ⟨by unfold keepB; rw [HM1.out, HM2.out, b5]; rw [e4]; rfl⟩
                have HM : Aside0 (cutP (pat l j) f t = ⟨f, t, (pat l j).group⟩) := ⟨by unfold cutP; rw [HM1.out, HM2.out]⟩
                go_wp2_with (first | (go_at_call 26; refine (below_any _ _ _ (by assumption) (by assumption)).mono ?_; rintro e w' ⟨rfl, n, rfl⟩))
                have HE1 : Aside0 (refG l f t = dn ++ refG (l.drop (j + 1)) f t) := ⟨by rw [HE.out, HS.out, if_neg (by rw [HK.out]; simp)]⟩
                go_roundw
                case rel => exact ⟨j + 1, dn, by omega, by omega, by go_num, ⟨Kd.R_below HO.out (by (repeat (first | exact Below.refl _ _ | apply bl_set | apply bl_alloc | apply bl_drewN)))⟩, ⟨HB.out.trans (Below.mono (B := wr.heap.size) (by (repeat (first | exact Below.refl _ _ | apply bl_set | apply bl_alloc | apply bl_drewN))) HB.out.size)⟩, HE1⟩
                case measure => simp [intOf]; omega
            · have HM2 : Aside0 (endB (pat l j).to_ t = (pat l j).to_) := ⟨by unfold endB; rw [te, b2, b3]; rfl⟩
              have e4 : emB (pat l j).to_ = false := b2
              rcases Bool.eq_false_or_eq_true (belowB f (pat l j).to_) with b5 | b5
              · have HK : Aside0 (keepB (pat l j) f t = true) := ⟨by unfold keepB; rw [HM1.out, HM2.out, b5]; simp⟩
                have HM : Aside0 (cutP (pat l j) f t = ⟨f, (pat l j).to_, (pat l j).group⟩) := ⟨by unfold cutP; rw [HM1.out, HM2.out]⟩
                go_wp2_with (first | (go_at_call 26; refine (below_any _ _ _ (by assumption) (by assumption)).mono ?_; rintro e w' ⟨rfl, n, rfl⟩) | (at_builtin; refine Kd.R_append kP (w0 := w) w.heap.size rfl (.tmp 63) (.tmp 65) 22 32 (.agg #[(.string ⟨#[]⟩), (.string ⟨#[]⟩), (.int .u64 0)]) 40 rfl Try.underlying22 info32 rfl (by decide) (by omega) u8 dn ⟨f, (pat l j).to_, (pat l j).group⟩ _ (fun _ => True) (fun _ => False) rfl ?hx (kP_mkM _ _ _ ⟨f, (pat l j).to_, (pat l j).group⟩) (fun _ hk => hk.elim) (fun _ _ => trivial) ?hO ?hB ?hS (by omega) ?_; (case hx => simp [Act.eval]); (case hO => exact Kd.R_below HO.out (by (repeat (first | exact Below.refl _ _ | apply bl_set | apply bl_alloc | apply bl_drewN)))); (case hB => exact HB.out.trans (Below.mono (B := wr.heap.size) (by (repeat (first | exact Below.refl _ _ | apply bl_set | apply bl_alloc | apply bl_drewN))) HB.out.size)); (case hS => exact Nat.le_trans HB.out.size (Below.size (B := wr.heap.size) (w := wr) (by (repeat (first | exact Below.refl _ _ | apply bl_set | apply bl_alloc | apply bl_drewN))))); intro v1 x1 ho hb _ _; have HO1 := Aside0.mk ho; have HB1 := Aside0.mk hb; clear ho hb))
                have HE1 : Aside0 (refG l f t = (dn ++ [⟨f, (pat l j).to_, (pat l j).group⟩]) ++ refG (l.drop (j + 1)) f t) := ⟨by rw [HE.out, HS.out, if_pos HK.out, HM.out, List.append_assoc]; rfl⟩
                go_roundw
                case rel => exact ⟨j + 1, _, by omega, by simp; omega, by go_num, HO1, HB1, HE1⟩
                case measure => simp [intOf]; omega
              · have HK : Aside0 (keepB (pat l j) f t = false) := ⟨by unfold keepB; rw [HM1.out, HM2.out, b5]; rw [e4]; rfl⟩
                have HM : Aside0 (cutP (pat l j) f t = ⟨f, (pat l j).to_, (pat l j).group⟩) := ⟨by unfold cutP; rw [HM1.out, HM2.out]⟩
                go_wp2_with (first | (go_at_call 26; refine (below_any _ _ _ (by assumption) (by assumption)).mono ?_; rintro e w' ⟨rfl, n, rfl⟩))
                have HE1 : Aside0 (refG l f t = dn ++ refG (l.drop (j + 1)) f t) := ⟨by rw [HE.out, HS.out, if_neg (by rw [HK.out]; simp)]⟩
                go_roundw
                case rel => exact ⟨j + 1, dn, by omega, by omega, by go_num, ⟨Kd.R_below HO.out (by (repeat (first | exact Below.refl _ _ | apply bl_set | apply bl_alloc | apply bl_drewN)))⟩, ⟨HB.out.trans (Below.mono (B := wr.heap.size) (by (repeat (first | exact Below.refl _ _ | apply bl_set | apply bl_alloc | apply bl_drewN))) HB.out.size)⟩, HE1⟩
                case measure => simp [intOf]; omega
      · have HM1 : Aside0 (mxB (pat l j).from_ f = (pat l j).from_) := ⟨by unfold mxB; rw [b1]; rfl⟩
        rcases Bool.eq_false_or_eq_true (emB t) with te | te
        · have HM2 : Aside0 (endB (pat l j).to_ t = (pat l j).to_) := ⟨by unfold endB; rw [te]; rfl⟩
          have te' : t.toList.isEmpty = true := te
          have te2 : (!t.toList.isEmpty) = false := by rw [te']; rfl
          rcases Bool.eq_false_or_eq_true (emB (pat l j).to_) with e4 | e4
          · have HK : Aside0 (keepB (pat l j) f t = true) := ⟨by unfold keepB; rw [HM2.out, e4]; rfl⟩
            have e4' : ((pat l j).to_).toList.isEmpty = true := e4
            clear e4
            have HM : Aside0 (cutP (pat l j) f t = ⟨(pat l j).from_, (pat l j).to_, (pat l j).group⟩) := ⟨by unfold cutP; rw [HM1.out, HM2.out]⟩
            go_wp2_with (first | (go_at_call 26; refine (below_any _ _ _ (by assumption) (by assumption)).mono ?_; rintro e w' ⟨rfl, n, rfl⟩) | (at_builtin; refine Kd.R_append kP (w0 := w) w.heap.size rfl (.tmp 63) (.tmp 65) 22 32 (.agg #[(.string ⟨#[]⟩), (.string ⟨#[]⟩), (.int .u64 0)]) 40 rfl Try.underlying22 info32 rfl (by decide) (by omega) u8 dn ⟨(pat l j).from_, (pat l j).to_, (pat l j).group⟩ _ (fun _ => True) (fun _ => False) rfl ?hx (kP_mkM _ _ _ ⟨(pat l j).from_, (pat l j).to_, (pat l j).group⟩) (fun _ hk => hk.elim) (fun _ _ => trivial) ?hO ?hB ?hS (by omega) ?_; (case hx => simp [Act.eval]); (case hO => exact Kd.R_below HO.out (by (repeat (first | exact Below.refl _ _ | apply bl_set | apply bl_alloc | apply bl_drewN)))); (case hB => exact HB.out.trans (Below.mono (B := wr.heap.size) (by (repeat (first | exact Below.refl _ _ | apply bl_set | apply bl_alloc | apply bl_drewN))) HB.out.size)); (case hS => exact Nat.le_trans HB.out.size (Below.size (B := wr.heap.size) (w := wr) (by (repeat (first | exact Below.refl _ _ | apply bl_set | apply bl_alloc | apply bl_drewN))))); intro v1 x1 ho hb _ _; have HO1 := Aside0.mk ho; have HB1 := Aside0.mk hb; clear ho hb))
            have HE1 : Aside0 (refG l f t = (dn ++ [⟨(pat l j).from_, (pat l j).to_, (pat l j).group⟩]) ++ refG (l.drop (j + 1)) f t) := ⟨by rw [HE.out, HS.out, if_pos HK.out, HM.out, List.append_assoc]; rfl⟩
            go_roundw
            case rel => exact ⟨j + 1, _, by omega, by simp; omega, by go_num, HO1, HB1, HE1⟩
            case measure => simp [intOf]; omega
          · have e4' : ((pat l j).to_).toList.isEmpty = false := e4
            rcases Bool.eq_false_or_eq_true (belowB (pat l j).from_ (pat l j).to_) with b5 | b5
            · have HK : Aside0 (keepB (pat l j) f t = true) := ⟨by unfold keepB; rw [HM1.out, HM2.out, b5]; simp⟩
              have HM : Aside0 (cutP (pat l j) f t = ⟨(pat l j).from_, (pat l j).to_, (pat l j).group⟩) := ⟨by unfold cutP; rw [HM1.out, HM2.out]⟩
              go_wp2_with (first | (go_at_call 26; refine (below_any _ _ _ (by assumption) (by assumption)).mono ?_; rintro e w' ⟨rfl, n, rfl⟩) | (at_builtin; refine Kd.R_append kP (w0 := w) w.heap.size rfl (.tmp 63) (.tmp 65) 22 32 (.agg #[(.string ⟨#[]⟩), (.string ⟨#[]⟩), (.int .u64 0)]) 40 rfl Try.underlying22 info32 rfl (by decide) (by omega) u8 dn ⟨(pat l j).from_, (pat l j).to_, (pat l j).group⟩ _ (fun _ => True) (fun _ => False) rfl ?hx (kP_mkM _ _ _ ⟨(pat l j).from_, (pat l j).to_, (pat l j).group⟩) (fun _ hk => hk.elim) (fun _ _ => trivial) ?hO ?hB ?hS (by omega) ?_; (case hx => simp [Act.eval]); (case hO => exact Kd.R_below HO.out (by (repeat (first | exact Below.refl _ _ | apply bl_set | apply bl_alloc | apply bl_drewN)))); (case hB => exact HB.out.trans (Below.mono (B := wr.heap.size) (by (repeat (first | exact Below.refl _ _ | apply bl_set | apply bl_alloc | apply bl_drewN))) HB.out.size)); (case hS => exact Nat.le_trans HB.out.size (Below.size (B := wr.heap.size) (w := wr) (by (repeat (first | exact Below.refl _ _ | apply bl_set | apply bl_alloc | apply bl_drewN))))); intro v1 x1 ho hb _ _; have HO1 := Aside0.mk ho; have HB1 := Aside0.mk hb; clear ho hb))
              have HE1 : Aside0 (refG l f t = (dn ++ [⟨(pat l j).from_, (pat l j).to_, (pat l j).group⟩]) ++ refG (l.drop (j + 1)) f t) := ⟨by rw [HE.out, HS.out, if_pos HK.out, HM.out, List.append_assoc]; rfl⟩
              go_roundw
              case rel => exact ⟨j + 1, _, by omega, by simp; omega, by go_num, HO1, HB1, HE1⟩
              case measure => simp [intOf]; omega
            · have HK : Aside0 (keepB (pat l j) f t = false) := ⟨by unfold keepB; rw [HM1.out, HM2.out, b5]; rw [e4]; rfl⟩
              have HM : Aside0 (cutP (pat l j) f t = ⟨(pat l j).from_, (pat l j).to_, (pat l j).group⟩) := ⟨by unfold cutP; rw [HM1.out, HM2.out]⟩
              go_wp2_with (first | (go_at_call 26; refine (below_any _ _ _ (by assumption) (by assumption)).mono ?_; rintro e w' ⟨rfl, n, rfl⟩))
              have HE1 : Aside0 (refG l f t = dn ++ refG (l.drop (j + 1)) f t) := ⟨by rw [HE.out, HS.out, if_neg (by rw [HK.out]; simp)]⟩
              go_roundw
              case rel => exact ⟨j + 1, dn, by omega, by omega, by go_num, ⟨Kd.R_below HO.out (by (repeat (first | exact Below.refl _ _ | apply bl_set | apply bl_alloc | apply bl_drewN)))⟩, ⟨HB.out.trans (Below.mono (B := wr.heap.size) (by (repeat (first | exact Below.refl _ _ | apply bl_set | apply bl_alloc | apply bl_drewN))) HB.out.size)⟩, HE1⟩
              case measure => simp [intOf]; omega
        · have te' : t.toList.isEmpty = false := te
          have te2 : (!t.toList.isEmpty) = true := by rw [te']; rfl
          rcases Bool.eq_false_or_eq_true (emB (pat l j).to_) with b2 | b2
          · have HM2 : Aside0 (endB (pat l j).to_ t = t) := ⟨by unfold endB; rw [te, b2]; rfl⟩
            have e2 : (pat l j).to_.toList.isEmpty = true := b2
            have e4 : emB t = false := te
            rcases Bool.eq_false_or_eq_true (belowB (pat l j).from_ t) with b5 | b5
            · have HK : Aside0 (keepB (pat l j) f t = true) := ⟨by unfold keepB; rw [HM1.out, HM2.out, b5]; simp⟩
              have HM : Aside0 (cutP (pat l j) f t = ⟨(pat l j).from_, t, (pat l j).group⟩) := ⟨by unfold cutP; rw [HM1.out, HM2.out]⟩
              go_wp2_with (first | (go_at_call 26; refine (below_any _ _ _ (by assumption) (by assumption)).mono ?_; rintro e w' ⟨rfl, n, rfl⟩) | (at_builtin; refine Kd.R_append kP (w0 := w) w.heap.size rfl (.tmp 63) (.tmp 65) 22 32 (.agg #[(.string ⟨#[]⟩), (.string ⟨#[]⟩), (.int .u64 0)]) 40 rfl Try.underlying22 info32 rfl (by decide) (by omega) u8 dn ⟨(pat l j).from_, t, (pat l j).group⟩ _ (fun _ => True) (fun _ => False) rfl ?hx (kP_mkM _ _ _ ⟨(pat l j).from_, t, (pat l j).group⟩) (fun _ hk => hk.elim) (fun _ _ => trivial) ?hO ?hB ?hS (by omega) ?_; (case hx => simp [Act.eval]); (case hO => exact Kd.R_below HO.out (by (repeat (first | exact Below.refl _ _ | apply bl_set | apply bl_alloc | apply bl_drewN)))); (case hB => exact HB.out.trans (Below.mono (B := wr.heap.size) (by (repeat (first | exact Below.refl _ _ | apply bl_set | apply bl_alloc | apply bl_drewN))) HB.out.size)); (case hS => exact Nat.le_trans HB.out.size (Below.size (B := wr.heap.size) (w := wr) (by (repeat (first | exact Below.refl _ _ | apply bl_set | apply bl_alloc | apply bl_drewN))))); intro v1 x1 ho hb _ _; have HO1 := Aside0.mk ho; have HB1 := Aside0.mk hb; clear ho hb))
              have HE1 : Aside0 (refG l f t = (dn ++ [⟨(pat l j).from_, t, (pat l j).group⟩]) ++ refG (l.drop (j + 1)) f t) := ⟨by rw [HE.out, HS.out, if_pos HK.out, HM.out, List.append_assoc]; rfl⟩
              go_roundw
              case rel => exact ⟨j + 1, _, by omega, by simp; omega, by go_num, HO1, HB1, HE1⟩
              case measure => simp [intOf]; omega
            · have HK : Aside0 (keepB (pat l j) f t = false) := ⟨by unfold keepB; rw [HM1.out, HM2.out, b5]; rw [e4]; rfl⟩
              have HM : Aside0 (cutP (pat l j) f t = ⟨(pat l j).from_, t, (pat l j).group⟩) := ⟨by unfold cutP; rw [HM1.out, HM2.out]⟩
              go_wp2_with (first | (go_at_call 26; refine (below_any _ _ _ (by assumption) (by assumption)).mono ?_; rintro e w' ⟨rfl, n, rfl⟩))
              have HE1 : Aside0 (refG l f t = dn ++ refG (l.drop (j + 1)) f t) := ⟨by rw [HE.out, HS.out, if_neg (by rw [HK.out]; simp)]⟩
              go_roundw
              case rel => exact ⟨j + 1, dn, by omega, by omega, by go_num, ⟨Kd.R_below HO.out (by (repeat (first | exact Below.refl _ _ | apply bl_set | apply bl_alloc | apply bl_drewN)))⟩, ⟨HB.out.trans (Below.mono (B := wr.heap.size) (by (repeat (first | exact Below.refl _ _ | apply bl_set | apply bl_alloc | apply bl_drewN))) HB.out.size)⟩, HE1⟩
              case measure => simp [intOf]; omega
          · have e2 : (pat l j).to_.toList.isEmpty = false := b2
            rcases Bool.eq_false_or_eq_true (belowB t (pat l j).to_) with b3 | b3
            · have HM2 : Aside0 (endB (pat l j).to_ t = t) := ⟨by unfold endB; rw [te, b2, b3]; rfl⟩
              have e4 : emB t = false := te
              rcases Bool.eq_false_or_eq_true (belowB (pat l j).from_ t) with b5 | b5
              · have HK : Aside0 (keepB (pat l j) f t = true) := ⟨by unfold keepB; rw [HM1.out, HM2.out, b5]; simp⟩
                have HM : Aside0 (cutP (pat l j) f t = ⟨(pat l j).from_, t, (pat l j).group⟩) := ⟨by unfold cutP; rw [HM1.out, HM2.out]⟩
                go_wp2_with (first | (go_at_call 26; refine (below_any _ _ _ (by assumption) (by assumption)).mono ?_; rintro e w' ⟨rfl, n, rfl⟩) | (at_builtin; refine Kd.R_append kP (w0 := w) w.heap.size rfl (.tmp 63) (.tmp 65) 22 32 (.agg #[(.string ⟨#[]⟩), (.string ⟨#[]⟩), (.int .u64 0)]) 40 rfl Try.underlying22 info32 rfl (by decide) (by omega) u8 dn ⟨(pat l j).from_, t, (pat l j).group⟩ _ (fun _ => True) (fun _ => False) rfl ?hx (kP_mkM _ _ _ ⟨(pat l j).from_, t, (pat l j).group⟩) (fun _ hk => hk.elim) (fun _ _ => trivial) ?hO ?hB ?hS (by omega) ?_; (case hx => simp [Act.eval]); (case hO => exact Kd.R_below HO.out (by (repeat (first | exact Below.refl _ _ | apply bl_set | apply bl_alloc | apply bl_drewN)))); (case hB => exact HB.out.trans (Below.mono (B := wr.heap.size) (by (repeat (first | exact Below.refl _ _ | apply bl_set | apply bl_alloc | apply bl_drewN))) HB.out.size)); (case hS => exact Nat.le_trans HB.out.size (Below.size (B := wr.heap.size) (w := wr) (by (repeat (first | exact Below.refl _ _ | apply bl_set | apply bl_alloc | apply bl_drewN))))); intro v1 x1 ho hb _ _; have HO1 := Aside0.mk ho; have HB1 := Aside0.mk hb; clear ho hb))
                have HE1 : Aside0 (refG l f t = (dn ++ [⟨(pat l j).from_, t, (pat l j).group⟩]) ++ refG (l.drop (j + 1)) f t) := ⟨by rw [HE.out, HS.out, if_pos HK.out, HM.out, List.append_assoc]; rfl⟩
                go_roundw
                case rel => exact ⟨j + 1, _, by omega, by simp; omega, by go_num, HO1, HB1, HE1⟩
                case measure => simp [intOf]; omega
              · have HK : Aside0 (keepB (pat l j) f t = false) := ⟨by unfold keepB; rw [HM1.out, HM2.out, b5]; rw [e4]; rfl⟩
                have HM : Aside0 (cutP (pat l j) f t = ⟨(pat l j).from_, t, (pat l j).group⟩) := ⟨by unfold cutP; rw [HM1.out, HM2.out]⟩
                go_wp2_with (first | (go_at_call 26; refine (below_any _ _ _ (by assumption) (by assumption)).mono ?_; rintro e w' ⟨rfl, n, rfl⟩))
                have HE1 : Aside0 (refG l f t = dn ++ refG (l.drop (j + 1)) f t) := ⟨by rw [HE.out, HS.out, if_neg (by rw [HK.out]; simp)]⟩
                go_roundw
                case rel => exact ⟨j + 1, dn, by omega, by omega, by go_num, ⟨Kd.R_below HO.out (by (repeat (first | exact Below.refl _ _ | apply bl_set | apply bl_alloc | apply bl_drewN)))⟩, ⟨HB.out.trans (Below.mono (B := wr.heap.size) (by (repeat (first | exact Below.refl _ _ | apply bl_set | apply bl_alloc | apply bl_drewN))) HB.out.size)⟩, HE1⟩
                case measure => simp [intOf]; omega
            · have HM2 : Aside0 (endB (pat l j).to_ t = (pat l j).to_) := ⟨by unfold endB; rw [te, b2, b3]; rfl⟩
              have e4 : emB (pat l j).to_ = false := b2
              rcases Bool.eq_false_or_eq_true (belowB (pat l j).from_ (pat l j).to_) with b5 | b5
              · have HK : Aside0 (keepB (pat l j) f t = true) := ⟨by unfold keepB; rw [HM1.out, HM2.out, b5]; simp⟩
                have HM : Aside0 (cutP (pat l j) f t = ⟨(pat l j).from_, (pat l j).to_, (pat l j).group⟩) := ⟨by unfold cutP; rw [HM1.out, HM2.out]⟩
                go_wp2_with (first | (go_at_call 26; refine (below_any _ _ _ (by assumption) (by assumption)).mono ?_; rintro e w' ⟨rfl, n, rfl⟩) | (at_builtin; refine Kd.R_append kP (w0 := w) w.heap.size rfl (.tmp 63) (.tmp 65) 22 32 (.agg #[(.string ⟨#[]⟩), (.string ⟨#[]⟩), (.int .u64 0)]) 40 rfl Try.underlying22 info32 rfl (by decide) (by omega) u8 dn ⟨(pat l j).from_, (pat l j).to_, (pat l j).group⟩ _ (fun _ => True) (fun _ => False) rfl ?hx (kP_mkM _ _ _ ⟨(pat l j).from_, (pat l j).to_, (pat l j).group⟩) (fun _ hk => hk.elim) (fun _ _ => trivial) ?hO ?hB ?hS (by omega) ?_; (case hx => simp [Act.eval]); (case hO => exact Kd.R_below HO.out (by (repeat (first | exact Below.refl _ _ | apply bl_set | apply bl_alloc | apply bl_drewN)))); (case hB => exact HB.out.trans (Below.mono (B := wr.heap.size) (by (repeat (first | exact Below.refl _ _ | apply bl_set | apply bl_alloc | apply bl_drewN))) HB.out.size)); (case hS => exact Nat.le_trans HB.out.size (Below.size (B := wr.heap.size) (w := wr) (by (repeat (first | exact Below.refl _ _ | apply bl_set | apply bl_alloc | apply bl_drewN))))); intro v1 x1 ho hb _ _; have HO1 := Aside0.mk ho; have HB1 := Aside0.mk hb; clear ho hb))
                have HE1 : Aside0 (refG l f t = (dn ++ [⟨(pat l j).from_, (pat l j).to_, (pat l j).group⟩]) ++ refG (l.drop (j + 1)) f t) := ⟨by rw [HE.out, HS.out, if_pos HK.out, HM.out, List.append_assoc]; rfl⟩
                go_roundw
                case rel => exact ⟨j + 1, _, by omega, by simp; omega, by go_num, HO1, HB1, HE1⟩
                case measure => simp [intOf]; omega
              · have HK : Aside0 (keepB (pat l j) f t = false) := ⟨by unfold keepB; rw [HM1.out, HM2.out, b5]; rw [e4]; rfl⟩
                have HM : Aside0 (cutP (pat l j) f t = ⟨(pat l j).from_, (pat l j).to_, (pat l j).group⟩) := ⟨by unfold cutP; rw [HM1.out, HM2.out]⟩
                go_wp2_with (first | (go_at_call 26; refine (below_any _ _ _ (by assumption) (by assumption)).mono ?_; rintro e w' ⟨rfl, n, rfl⟩))
                have HE1 : Aside0 (refG l f t = dn ++ refG (l.drop (j + 1)) f t) := ⟨by rw [HE.out, HS.out, if_neg (by rw [HK.out]; simp)]⟩
                go_roundw
                case rel => exact ⟨j + 1, dn, by omega, by omega, by go_num, ⟨Kd.R_below HO.out (by (repeat (first | exact Below.refl _ _ | apply bl_set | apply bl_alloc | apply bl_drewN)))⟩, ⟨HB.out.trans (Below.mono (B := wr.heap.size) (by (repeat (first | exact Below.refl _ _ | apply bl_set | apply bl_alloc | apply bl_drewN))) HB.out.size)⟩, HE1⟩
                case measure => simp [intOf]; omega
    · obtain rfl : j = l.length := by omega
      have hE := HE.out
      rw [List.drop_eq_nil_of_le (Nat.le_refl _)] at hE
      have hE2 : refG l f t = dn := by rw [hE]; simp [refG]
      have HE2 := Aside0.mk hE2
      have h4' : decide (l.length < l.length) = false := df (by omega)
      clear hE hE2
      go_wp2_with fail
      go_ret2
      rw [HE2.out]
      exact ⟨_, rfl, HO.out, HB.out⟩

set_option maxHeartbeats 4000000 in
set_option maxRecDepth 100000 in
theorem rcover_any (A : Option Addr) (c : Nat) (l : List Part) (f t : ByteArray) (w : World) (hr : Kd.C kP w A l.length l) (hl : l.length ≤ 1000) (hs : ∀ k, k < l.length → (pat l k).from_.size ≤ 1000000 ∧ (pat l k).to_.size ≤ 1000000) (hf : f.size ≤ 1000000) (ht : t.size ≤ 1000000) :
    Calls Try.prog 17 #[.slice A l.length c, .string f, .string t] w fun e w' => ∃ v, e = .returned (.tuple #[v, .int .i64 (coverK l f t)]) ∧ Kd.R kP 32 w' w.heap.size (fun _ => True) v (refCoverR l f t) ∧ Below w.heap.size w w' := by
  have HR := Aside0.mk hr
  have HF : Aside0 (∀ k, k < l.length → (pat l k).from_.size ≤ 1000000) := ⟨fun k hk => (hs k hk).1⟩
  rcases Bool.eq_false_or_eq_true (rightB l) with hi | hi
  · have HI := Aside0.mk hi
    by_cases hbig : 32 < f.size ∨ 32 < t.size
    · have hs1 : coverK l f t = 1 := by unfold coverK; rw [hi, if_pos rfl, if_pos hbig]
      have hsr : refCoverR l f t = [] := by unfold refCoverR; rw [hs1]; simp
      rw [hs1, hsr]
      clear hr hi hs hs1 hsr
      by_cases hf32 : 32 < f.size
      · have d2 : decide (32 < f.size) = true := dt (by omega)
        have d2' : decide ((32 : Int) < (f.size : Int)) = true := dt (by omega)
        clear hbig
        go_enter Try.func17, Try.ntmps17
        go_wp2_with fail
        refine (rright_any _ _ l _ HR.out (by omega) HF.out).mono ?_
        rintro e w1 ⟨rfl, ⟨d, rfl⟩⟩
        rw [HI.out]
        go_wp2_with fail
        go_ret2
        exact ⟨_, rfl, Kd.R_nil _ _ _ _ _, pw_drewN (Below.refl _ _) d⟩
      · have d1 : decide (32 < f.size) = false := df (by omega)
        have d1' : decide ((32 : Int) < (f.size : Int)) = false := df (by omega)
        have d2 : decide (32 < t.size) = true := dt (by omega)
        have d2' : decide ((32 : Int) < (t.size : Int)) = true := dt (by omega)
        clear hbig
        go_enter Try.func17, Try.ntmps17
        go_wp2_with fail
        refine (rright_any _ _ l _ HR.out (by omega) HF.out).mono ?_
        rintro e w1 ⟨rfl, ⟨d, rfl⟩⟩
        rw [HI.out]
        go_wp2_with fail
        go_ret2
        exact ⟨_, rfl, Kd.R_nil _ _ _ _ _, pw_drewN (Below.refl _ _) d⟩
    · have hs1 : coverK l f t = 0 := by unfold coverK; rw [hi, if_pos rfl, if_neg hbig]
      have hsr : refCoverR l f t = refG l f t := by unfold refCoverR; rw [hs1, if_pos rfl]
      rw [hs1, hsr]
      exact rcover_yes A c l f t w hr hl hs hi (by omega) (by omega)
  · have hs1 : coverK l f t = 3 := by unfold coverK; rw [hi]; rfl
    have hsr : refCoverR l f t = [] := by unfold refCoverR; rw [hs1]; simp
    rw [hs1, hsr]
    have HI := Aside0.mk hi
    clear hr hi hs hs1 hsr
    go_enter Try.func17, Try.ntmps17
    go_wp2_with fail
    refine (rright_any _ _ l _ HR.out (by omega) HF.out).mono ?_
    rintro e w1 ⟨rfl, ⟨d, rfl⟩⟩
    rw [HI.out]
    go_wp2_with fail
    go_ret2
    exact ⟨_, rfl, Kd.R_nil _ _ _ _ _, pw_drewN (Below.refl _ _) d⟩
end Go.Proofs.Ytoemddjolfblbaa
