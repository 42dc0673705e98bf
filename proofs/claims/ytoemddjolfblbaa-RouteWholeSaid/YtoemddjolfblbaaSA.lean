/- Split of the reference: its kind, and the table that is cut. -/
import Derived.Test.YtoemddjolfblbaaU
import Derived.Test.YtoemddjolfblbaaSC
/- Split of the reference. -/
set_option linter.unusedVariables false
set_option linter.unusedSimpArgs false
namespace Go.Proofs.Ytoemddjolfblbaa
open Go.RowKit Go.Proofs.YtoemddjolfblbaaW.PrintWords

/-- Two parts in one box, read as a row. -/
theorem rows2 {w : World} {B : Nat} {p q : Part} {t : TypeId} (h : w.heap[B]? = some (.cells (cellsP p ++ cellsP q).toArray t (0, 0))) : ReadsRow (fun (x : Part) cs => cs = cellsP x) 3 w (some ⟨B, 0, none⟩) 2 [p, q] := by
  refine ⟨rfl, by omega, fun _ => ⟨_, rfl, fun j x hj => ?_⟩⟩
  have hb : ∀ i, w.cell? ⟨B, i, none⟩ = (cellsP p ++ cellsP q)[i]? := fun i => (blk_cell h i).trans (by simp)
  match j, hj with
  | 0, hj =>
    obtain rfl : p = x := by simpa using hj
    refine ⟨_, rfl, rfl, fun i u hu => ?_⟩
    have hi : i < 3 := (List.getElem?_eq_some_iff.1 hu).1
    have e : (⟨B, 0, none⟩ : Addr).add (0 * 3 + i) = ⟨B, i, none⟩ := by rw [add_off]; congr 1; omega
    rw [e, hb, List.getElem?_append_left (by exact hi), hu]
  | 1, hj =>
    obtain rfl : q = x := by simpa using hj
    refine ⟨_, rfl, rfl, fun i u hu => ?_⟩
    have hi : i < 3 := (List.getElem?_eq_some_iff.1 hu).1
    have e : (⟨B, 0, none⟩ : Addr).add (1 * 3 + i) = ⟨B, 3 + i, none⟩ := by rw [add_off]; congr 1; omega
    rw [e, hb, List.getElem?_append_right (by simp [cellsP])]
    simpa [cellsP] using hu
  | j + 2, hj => simp at hj
theorem kP_cells (w : World) (base : Nat) (ok : Nat → Prop) : ∀ x cs, cs = cellsP x → kP.M w base ok x cs := fun x _ h => h ▸ kP_mkM w base ok x

def hasP (p : Part) (at_ : ByteArray) : Bool := hasB p.from_ p.to_ at_
def refSG : List Part → ByteArray → Int → List Part
  | [], _, _ => []
  | p :: r, at_, g => (if hasP p at_ then [⟨p.from_, at_, p.group⟩, ⟨at_, p.to_, g⟩] else [p]) ++ refSG r at_ g
theorem refSG_step {l : List Part} {j : Nat} (hj : j < l.length) (at_ : ByteArray) (g : Int) : refSG (l.drop j) at_ g = (if hasP (pat l j) at_ then [⟨(pat l j).from_, at_, (pat l j).group⟩, ⟨at_, (pat l j).to_, g⟩] else [pat l j]) ++ refSG (l.drop (j + 1)) at_ g := by
  have e : pat l j = l[j] := by simp [pat, List.getD_eq_getElem?_getD, List.getElem?_eq_getElem hj]
  rw [List.drop_eq_getElem_cons hj, e]
  rfl
theorem hasP_at {l : List Part} (h : RightL l) {at_ : ByteArray} {i k : Nat} (hi : At l at_ i) (hk : k < l.length) : hasP (pat l k) at_ = decide (k = i) := by
  unfold hasP
  by_cases e : k = i
  · rw [(has_iff h at_ hk).2 (e ▸ hi)]; simp [e]
  · have : hasB (pat l k).from_ (pat l k).to_ at_ = false := by
      rw [← Bool.not_eq_true, has_iff h at_ hk]
      exact fun h2 => e (h2.unique h hi)
    rw [this]; simp [e]
theorem refSG_behind {l : List Part} (h : RightL l) {at_ : ByteArray} {g : Int} {i : Nat} (hi : At l at_ i) : ∀ (d k : Nat), l.length - k = d → i < k → refSG (l.drop k) at_ g = l.drop k := by
  intro d
  induction d with
  | zero => intro k hd hk; rw [List.drop_eq_nil_of_le (by omega)]; rfl
  | succ d ih =>
    intro k hd hk
    have hkl : k < l.length := by omega
    have e : pat l k = l[k] := by simp [pat, List.getD_eq_getElem?_getD, List.getElem?_eq_getElem hkl]
    have e0 : decide (k = i) = false := by simp; omega
    rw [refSG_step hkl, hasP_at h hi hkl, e0, ih (k + 1) (by omega) (by omega), List.drop_eq_getElem_cons hkl, e]
    rfl
theorem refSG_ahead {l : List Part} (h : RightL l) {at_ : ByteArray} {g : Int} {i : Nat} (hi : At l at_ i) : ∀ (d k : Nat), i - k = d → k ≤ i → refSG (l.drop k) at_ g = (l.drop k).take (i - k) ++ refSG (l.drop i) at_ g := by
  intro d
  induction d with
  | zero =>
    intro k hd hk
    obtain rfl : k = i := by omega
    simp
  | succ d ih =>
    intro k hd hk
    have hil := hi.lt
    have hkl : k < l.length := by omega
    have e : pat l k = l[k] := by simp [pat, List.getD_eq_getElem?_getD, List.getElem?_eq_getElem hkl]
    have e0 : decide (k = i) = false := by simp; omega
    rw [refSG_step hkl, hasP_at h hi hkl, e0, ih (k + 1) (by omega) (by omega), e]
    conv => rhs; rw [List.drop_eq_getElem_cons hkl, show i - k = (i - (k + 1)) + 1 by omega, List.take_succ_cons]
    rfl
theorem refSG_eq {l : List Part} (h : RightL l) {at_ : ByteArray} {g : Int} {i : Nat} (hi : At l at_ i) : refSG l at_ g = cutL l i at_ g := by
  have h1 := refSG_ahead (g := g) h hi i 0 (by omega) (Nat.zero_le _)
  rw [List.drop_zero] at h1
  rw [h1, refSG_step hi.lt, hasP_at h hi hi.lt, refSG_behind h hi _ (i + 1) rfl (by omega)]
  simp [cutL]
theorem is_none {l : List Part} (h : RightL l) {at_ : ByteArray} (hi : isL l at_ = false) : ∀ k, k < l.length → ((pat l k).from_.toList == at_.toList) = false := by
  intro k hk
  rw [eqB_false]
  intro e
  obtain ⟨i, _, ha, his⟩ := place_at h at_
  have hk2 : At l at_ k := ⟨hk, by rw [e]; exact ltB_irrefl _, fun m h1 h2 => by rw [← e]; exact h.lt h1 h2⟩
  obtain rfl := hk2.unique h ha
  rw [his.2 e] at hi
  cases hi
theorem is_empty {l : List Part} (h : RightL l) {at_ : ByteArray} (he : at_.toList.isEmpty = true) : isL l at_ = true := by
  obtain ⟨i, _, ha, his⟩ := place_at h at_
  rw [his]
  rcases ltB_tri (pat l i).from_ at_ with h1 | h1 | h1
  · exact absurd h1 (empty_le he)
  · exact h1
  · exact absurd h1 ha.from_

set_option maxHeartbeats 4000000 in
set_option maxRecDepth 100000 in
theorem rsplit_form (A : Option Addr) (c : Nat) (l : List Part) (at_ : ByteArray) (g : Int) (w : World) (hr : Kd.C kP w A l.length l) (hl : l.length ≤ 1000) (hs : ∀ k, k < l.length → (pat l k).from_.size ≤ 1000000 ∧ (pat l k).to_.size ≤ 1000000) (hR : rightB l = false) :
    Calls Try.prog 21 #[.slice A l.length c, .string at_, .int .u64 g] w (RetN 3 w) := by
  have HR := Aside0.mk hr
  have HI := Aside0.mk hR
  have HZ := Aside0.mk hs
  have HF : Aside0 (∀ k, k < l.length → (pat l k).from_.size ≤ 1000000) := ⟨fun k hk => (hs k hk).1⟩
  clear hr hR hs
  go_enter Try.func21, Try.ntmps21
  go_wp2_with fail
  refine (rright_any _ _ l _ HR.out (by omega) HF.out).mono ?_
  rintro e w1 ⟨rfl, ⟨d, rfl⟩⟩
  rw [HI.out]
  go_wp2_with fail
  go_ret2
  exact ⟨rfl, pw_drewN (Below.refl _ _) d⟩
set_option maxHeartbeats 4000000 in
set_option maxRecDepth 100000 in
theorem rsplit_arg (A : Option Addr) (c : Nat) (l : List Part) (at_ : ByteArray) (g : Int) (w : World) (hr : Kd.C kP w A l.length l) (hl : l.length ≤ 1000) (hs : ∀ k, k < l.length → (pat l k).from_.size ≤ 1000000 ∧ (pat l k).to_.size ≤ 1000000) (hR : rightB l = true) (hb : at_.toList.isEmpty = true ∨ 32 < at_.size ∨ g = 0) :
    Calls Try.prog 21 #[.slice A l.length c, .string at_, .int .u64 g] w (RetN 1 w) := by
  have HR := Aside0.mk hr
  have HI := Aside0.mk hR
  have HZ := Aside0.mk hs
  have HF : Aside0 (∀ k, k < l.length → (pat l k).from_.size ≤ 1000000) := ⟨fun k hk => (hs k hk).1⟩
  clear hr hR hs
  rcases Bool.eq_false_or_eq_true at_.toList.isEmpty with e1 | e1
  · clear hb
    go_enter Try.func21, Try.ntmps21
    go_wp2_with fail
    refine (rright_any _ _ l _ HR.out (by omega) HF.out).mono ?_
    rintro e w1 ⟨rfl, ⟨d, rfl⟩⟩
    rw [HI.out]
    go_wp2_with fail
    go_ret2
    exact ⟨rfl, pw_drewN (Below.refl _ _) d⟩
  · by_cases h2 : 32 < at_.size
    · have d1 : decide ((32 : Int) < (at_.size : Int)) = true := dt (by omega)
      have d1' : decide (32 < at_.size) = true := dt (by omega)
      clear hb h2
      go_enter Try.func21, Try.ntmps21
      go_wp2_with fail
      refine (rright_any _ _ l _ HR.out (by omega) HF.out).mono ?_
      rintro e w1 ⟨rfl, ⟨d, rfl⟩⟩
      rw [HI.out]
      go_wp2_with fail
      go_ret2
      exact ⟨rfl, pw_drewN (Below.refl _ _) d⟩
    · have d1 : decide ((32 : Int) < (at_.size : Int)) = false := df (by omega)
      have d1' : decide (32 < at_.size) = false := df (by omega)
      have g1 : (g == 0) = true := by
        rcases hb with hb | hb | hb
        · rw [e1] at hb; cases hb
        · exact absurd hb h2
        · subst hb; rfl
      clear hb h2
      go_enter Try.func21, Try.ntmps21
      go_wp2_with fail
      refine (rright_any _ _ l _ HR.out (by omega) HF.out).mono ?_
      rintro e w1 ⟨rfl, ⟨d, rfl⟩⟩
      rw [HI.out]
      go_wp2_with fail
      go_ret2
      exact ⟨rfl, pw_drewN (Below.refl _ _) d⟩
set_option maxHeartbeats 4000000 in
set_option maxRecDepth 100000 in
theorem rsplit_is (A : Option Addr) (c : Nat) (l : List Part) (at_ : ByteArray) (g : Int) (w : World) (hr : Kd.C kP w A l.length l) (hl : l.length ≤ 1000) (hs : ∀ k, k < l.length → (pat l k).from_.size ≤ 1000000 ∧ (pat l k).to_.size ≤ 1000000) (hR : rightB l = true) (he : at_.toList.isEmpty = false) (ha : at_.size ≤ 32) (hg : g ≠ 0) (hi : isL l at_ = true) :
    Calls Try.prog 21 #[.slice A l.length c, .string at_, .int .u64 g] w (RetN 1 w) := by
  obtain ⟨n, _, hat, his⟩ := place_at ((rightB_iff l).1 hR) at_
  have hn := hat.lt
  have hfr := his.1 hi
  have HNE : Aside0 (∀ k, k < n → ((pat l k).from_.toList == at_.toList) = false) := ⟨fun k hk => by
    rw [eqB_false]
    intro e
    have h1 := ((rightB_iff l).1 hR).lt hk hn
    rw [e, hfr] at h1
    exact ltB_irrefl _ h1⟩
  have HEQ : Aside0 (((pat l n).from_.toList == at_.toList) = true) := ⟨(eqB_iff _ _).2 hfr⟩
  clear hat his hfr hi
  have HR := Aside0.mk hr
  have HI := Aside0.mk hR
  have HZ := Aside0.mk hs
  have HF : Aside0 (∀ k, k < l.length → (pat l k).from_.size ≤ 1000000) := ⟨fun k hk => (hs k hk).1⟩
  clear hr hR hs
  have e1 : at_.toList.isEmpty = false := he
  have d1 : decide ((32 : Int) < (at_.size : Int)) = false := df (by omega)
  have d1' : decide (32 < at_.size) = false := df (by omega)
  have g1 : (g == 0) = false := ine hg
  clear he hg
  go_enter Try.func21, Try.ntmps21
  go_wp2_with fail
  refine (rright_any _ _ l _ HR.out (by omega) HF.out).mono ?_
  rintro e w1 ⟨rfl, ⟨d, rfl⟩⟩
  rw [HI.out]
  go_wp2_with fail
  go_loopw [8] (fun vi w' => ∃ i : Nat, i ≤ n ∧ vi = .int .i64 i ∧ Aside0 (Below w.heap.size w w')) (fun vi _ => l.length - (intOf vi).toNat)
  case atStart => exact ⟨0, by omega, rfl, ⟨pw_drewN (Below.refl _ _) d⟩⟩
  case round =>
    obtain ⟨i, hi, rfl, HB⟩ := hrel
    have h4 : (i : Int) < (l.length : Int) := by omega
    have h4' : decide (i < l.length) = true := dt (by omega)
    obtain ⟨ad, rfl, HH⟩ := kP_hold HR.out i (by omega)
    obtain ⟨c0, c1, c2⟩ := HH.out _ HB.out
    by_cases hin : i = n
    · have hh : ((pat l i).from_.toList == at_.toList) = true := by rw [hin]; exact HEQ.out
      clear hin
      go_wp2_with fail
      go_ret2
      exact ⟨rfl, HB.out⟩
    · have hh := HNE.out i (by omega)
      go_wp2_with fail
      go_roundw
      case rel => exact ⟨i + 1, by omega, by go_num, HB⟩
      case measure => simp [intOf]; omega
set_option maxHeartbeats 4000000 in
set_option maxRecDepth 100000 in
theorem rsplit_full (A : Option Addr) (c : Nat) (l : List Part) (at_ : ByteArray) (g : Int) (w : World) (hr : Kd.C kP w A l.length l) (hl : l.length ≤ 1000) (hs : ∀ k, k < l.length → (pat l k).from_.size ≤ 1000000 ∧ (pat l k).to_.size ≤ 1000000) (hR : rightB l = true) (he : at_.toList.isEmpty = false) (ha : at_.size ≤ 32) (hg : g ≠ 0) (hi : isL l at_ = false) (h64 : 64 ≤ l.length) :
    Calls Try.prog 21 #[.slice A l.length c, .string at_, .int .u64 g] w (RetN 4 w) := by
  have HNE := Aside0.mk (is_none ((rightB_iff l).1 hR) hi)
  clear hi
  have HR := Aside0.mk hr
  have HI := Aside0.mk hR
  have HZ := Aside0.mk hs
  have HF : Aside0 (∀ k, k < l.length → (pat l k).from_.size ≤ 1000000) := ⟨fun k hk => (hs k hk).1⟩
  clear hr hR hs
  have e1 : at_.toList.isEmpty = false := he
  have d1 : decide ((32 : Int) < (at_.size : Int)) = false := df (by omega)
  have d1' : decide (32 < at_.size) = false := df (by omega)
  have g1 : (g == 0) = false := ine hg
  clear he hg
  have d2 : decide ((64 : Int) ≤ (l.length : Int)) = true := dt (by omega)
  have d2' : decide (64 ≤ l.length) = true := dt (by omega)
  go_enter Try.func21, Try.ntmps21
  go_wp2_with fail
  refine (rright_any _ _ l _ HR.out (by omega) HF.out).mono ?_
  rintro e w1 ⟨rfl, ⟨d, rfl⟩⟩
  rw [HI.out]
  go_wp2_with fail
  go_loopw [8] (fun vi w' => ∃ i : Nat, i ≤ l.length ∧ vi = .int .i64 i ∧ Aside0 (Below w.heap.size w w')) (fun vi _ => l.length - (intOf vi).toNat)
  case atStart => exact ⟨0, by omega, rfl, ⟨pw_drewN (Below.refl _ _) d⟩⟩
  case round =>
    obtain ⟨i, hi, rfl, HB⟩ := hrel
    by_cases hlt : i < l.length
    · have h4 : (i : Int) < (l.length : Int) := by omega
      have h4' : decide (i < l.length) = true := dt (by omega)
      obtain ⟨ad, rfl, HH⟩ := kP_hold HR.out i (by omega)
      obtain ⟨c0, c1, c2⟩ := HH.out _ HB.out
      have hh := HNE.out i (by omega)
      go_wp2_with fail
      go_roundw
      case rel => exact ⟨i + 1, by omega, by go_num, HB⟩
      case measure => simp [intOf]; omega
    · obtain rfl : i = l.length := by omega
      have h4' : decide (l.length < l.length) = false := df (by omega)
      clear hlt
      go_wp2_with fail
      go_ret2
      exact ⟨rfl, HB.out⟩
set_option maxHeartbeats 4000000 in
set_option maxRecDepth 100000 in
theorem rsplit_yes (A : Option Addr) (c : Nat) (l : List Part) (at_ : ByteArray) (g : Int) (w : World) (hr : Kd.C kP w A l.length l) (hl : l.length ≤ 1000) (hs : ∀ k, k < l.length → (pat l k).from_.size ≤ 1000000 ∧ (pat l k).to_.size ≤ 1000000) (hR : rightB l = true) (he : at_.toList.isEmpty = false) (ha : at_.size ≤ 32) (hg : g ≠ 0) (hi : isL l at_ = false) (h64 : l.length < 64) :
    Calls Try.prog 21 #[.slice A l.length c, .string at_, .int .u64 g] w fun e w' => ∃ v, e = .returned (.tuple #[v, .int .i64 0]) ∧ Kd.R kP 32 w' w.heap.size (fun _ => True) v (refSG l at_ g) ∧ Below w.heap.size w w' := by
  have HNE := Aside0.mk (is_none ((rightB_iff l).1 hR) hi)
  clear hi
  have HR := Aside0.mk hr
  have HI := Aside0.mk hR
  have HZ := Aside0.mk hs
  have HF : Aside0 (∀ k, k < l.length → (pat l k).from_.size ≤ 1000000) := ⟨fun k hk => (hs k hk).1⟩
  clear hr hR hs
  have e1 : at_.toList.isEmpty = false := he
  have d1 : decide ((32 : Int) < (at_.size : Int)) = false := df (by omega)
  have d1' : decide (32 < at_.size) = false := df (by omega)
  have g1 : (g == 0) = false := ine hg
  clear he hg
  have d2 : decide ((64 : Int) ≤ (l.length : Int)) = false := df (by omega)
  have d2' : decide (64 ≤ l.length) = false := df (by omega)
  go_enter Try.func21, Try.ntmps21
  go_wp2_with fail
  refine (rright_any _ _ l _ HR.out (by omega) HF.out).mono ?_
  rintro e w1 ⟨rfl, ⟨d, rfl⟩⟩
  rw [HI.out]
  go_wp2_with fail
  go_loopw [8] (fun vi w' => ∃ i : Nat, i ≤ l.length ∧ vi = .int .i64 i ∧ Aside0 (Below w.heap.size w w')) (fun vi _ => l.length - (intOf vi).toNat)
  case atStart => exact ⟨0, by omega, rfl, ⟨pw_drewN (Below.refl _ _) d⟩⟩
  case round =>
    obtain ⟨i, hi, rfl, HB⟩ := hrel
    by_cases hlt : i < l.length
    · have h4 : (i : Int) < (l.length : Int) := by omega
      have h4' : decide (i < l.length) = true := dt (by omega)
      obtain ⟨ad, rfl, HH⟩ := kP_hold HR.out i (by omega)
      obtain ⟨c0, c1, c2⟩ := HH.out _ HB.out
      have hh := HNE.out i (by omega)
      go_wp2_with fail
      go_roundw
      case rel => exact ⟨i + 1, by omega, by go_num, HB⟩
      case measure => simp [intOf]; omega
    · obtain rfl : i = l.length := by omega
      have h4' : decide (l.length < l.length) = false := df (by omega)
      clear hlt
      go_wp2_with fail
      go_loopw [9, 10] (fun v vj w' => ∃ (j : Nat) (dn : List Part), j ≤ l.length ∧ dn.length ≤ j * 2 ∧ vj = .int .i64 j ∧ Aside0 (Kd.R kP 32 w' w.heap.size (fun _ => True) v dn) ∧ Aside0 (Below w.heap.size w w') ∧ Aside0 (refSG l at_ g = dn ++ refSG (l.drop j) at_ g)) (fun _ vj _ => l.length - (intOf vj).toNat)
      case atStart => exact ⟨0, [], by omega, by simp, rfl, ⟨Kd.R_nil _ _ _ _ _⟩, HB, ⟨rfl⟩⟩
      case round =>
        obtain ⟨j, dn, hj, hdn, rfl, HO, HB, HE⟩ := hrel
        by_cases hlt : j < l.length
        · have h4 : (j : Int) < (l.length : Int) := by omega
          have h4' : decide (j < l.length) = true := dt hlt
          obtain ⟨ad, rfl, HH⟩ := kP_hold HR.out j hlt
          obtain ⟨c0, c1, c2⟩ := HH.out _ HB.out
          have HS := Aside0.mk (refSG_step hlt at_ g)
          have z1 := (HZ.out j hlt).1
          have z2 := (HZ.out j hlt).2
          go_wp2_with fail
          refine (has_any _ _ _ _ _ z1 z2 (by omega)).mono ?_
          rintro e w2 ⟨rfl, hb2⟩
          have HO2 := Aside0.mk (Kd.R_below HO.out hb2)
          have HB2 := Aside0.mk (HB.out.trans (hb2.mono HB.out.size))
          clear hb2 HO HB c0 c1 c2
          obtain ⟨c0, c1, c2⟩ := HH.out _ HB2.out
          rcases Bool.eq_false_or_eq_true (hasB (pat l j).from_ (pat l j).to_ at_) with hh | hh
          · rw [hh]
            have HHH := Aside0.mk hh
            clear hh
            have HE1 : Aside0 (refSG l at_ g = (dn ++ [⟨(pat l j).from_, at_, (pat l j).group⟩, ⟨at_, (pat l j).to_, g⟩]) ++ refSG (l.drop (j + 1)) at_ g) := ⟨by rw [HE.out, HS.out, show hasP (pat l j) at_ = true from HHH.out, List.append_assoc]; rfl⟩
            go_wp2_with fail
            go_region_held3 (fun w' => w'.cell? (ad.add (j * 3)) = some (.string (pat l j).from_) ∧ w'.cell? ⟨(ad.add (j * 3)).block, (ad.add (j * 3)).off + 1, none⟩ = some (.string (pat l j).to_) ∧ w'.cell? ⟨(ad.add (j * 3)).block, (ad.add (j * 3)).off + 2, none⟩ = some (.int .u64 (pat l j).group))
              (first | go_keep | exact HH.out _ hb | exact HH.out _ ((below_drew1 HB2.out).alloc HB2.out.size _))
              ((refine Kd.R_append_rows_step kP (Rr := fun x cs => cs = cellsP x) (w0 := w) w.heap.size (by rfl) (.tmp 61) (.tmp 82) 22 32 (.agg #[(.string ⟨#[]⟩), (.string ⟨#[]⟩), (.int .u64 0)]) 40 rfl Try.underlying22 info32 rfl (by decide) (by omega) u9 dn [⟨(pat l j).from_, at_, (pat l j).group⟩, ⟨at_, (pat l j).to_, g⟩] _ 2 2 (fun _ => True) (fun _ => False) rfl rfl (Kd.R_alloc (Kd.R_drew HO2.out) _) (rows2 (heap_alloc_new _ _)) (kP_cells _ _ _) (fun _ hk => hk.elim) (fun _ _ => trivial) ((below_drew1 HB2.out).alloc HB2.out.size _) ?aB ?aL ?_; (case aB => have := HB2.out.size; simp; omega); (case aL => omega); intro v1 w1 ho hb hg hat))
            have HO1 := Aside0.mk ho
            have HB1 := Aside0.mk hb
            clear ho hb hg hat
            go_wp2_with fail
            go_roundw
            case rel => exact ⟨j + 1, _, by omega, by simp; omega, by go_num, HO1, HB1, HE1⟩
            case measure => simp [intOf]; omega
          · rw [hh]
            have HHH := Aside0.mk hh
            clear hh
            have HE1 : Aside0 (refSG l at_ g = (dn ++ [pat l j]) ++ refSG (l.drop (j + 1)) at_ g) := ⟨by rw [HE.out, HS.out, show hasP (pat l j) at_ = false from HHH.out, List.append_assoc]; rfl⟩
            go_wp2_with (at_builtin; refine Kd.R_append kP (w0 := w) w.heap.size rfl (.tmp 54) (.tmp 59) 22 32 (.agg #[(.string ⟨#[]⟩), (.string ⟨#[]⟩), (.int .u64 0)]) 40 rfl Try.underlying22 info32 rfl (by decide) (by omega) u9 dn (pat l j) _ (fun _ => True) (fun _ => False) rfl ?hx (kP_mkM _ _ _ (pat l j)) (fun _ hk => hk.elim) (fun _ _ => trivial) HO2.out HB2.out HB2.out.size (by omega) ?_; (case hx => simp [Act.eval]); intro v1 x1 ho hb _ _; have HO1 := Aside0.mk ho; have HB1 := Aside0.mk hb; clear ho hb)
            go_roundw
            case rel => exact ⟨j + 1, _, by omega, by simp; omega, by go_num, HO1, HB1, HE1⟩
            case measure => simp [intOf]; omega
        · obtain rfl : j = l.length := by omega
          have hE := HE.out
          rw [List.drop_eq_nil_of_le (Nat.le_refl _)] at hE
          have hE2 : refSG l at_ g = dn := by rw [hE]; simp [refSG]
          have HE2 := Aside0.mk hE2
          have h4' : decide (l.length < l.length) = false := df (by omega)
          clear hE hE2 hlt
          go_wp2_with fail
          go_ret2
          rw [HE2.out]
          exact ⟨_, rfl, HO.out, HB.out⟩
theorem rsplit_any (A : Option Addr) (c : Nat) (l : List Part) (at_ : ByteArray) (g : Int) (w : World) (hr : Kd.C kP w A l.length l) (hl : l.length ≤ 1000) (hs : ∀ k, k < l.length → (pat l k).from_.size ≤ 1000000 ∧ (pat l k).to_.size ≤ 1000000) (ha : at_.size ≤ 1000000) :
    Calls Try.prog 21 #[.slice A l.length c, .string at_, .int .u64 g] w fun e w' => ∃ v, e = .returned (.tuple #[v, .int .i64 (splitK l at_ g)]) ∧ Kd.R kP 32 w' w.heap.size (fun _ => True) v (splitR l at_ g) ∧ Below w.heap.size w w' := by
  have hn : ∀ k, k ≠ 0 → splitK l at_ g = k → Calls Try.prog 21 #[.slice A l.length c, .string at_, .int .u64 g] w (RetN k w) → Calls Try.prog 21 #[.slice A l.length c, .string at_, .int .u64 g] w fun e w' => ∃ v, e = .returned (.tuple #[v, .int .i64 (splitK l at_ g)]) ∧ Kd.R kP 32 w' w.heap.size (fun _ => True) v (splitR l at_ g) ∧ Below w.heap.size w w' := by
    intro k hk he h
    refine h.mono ?_
    rintro e w' ⟨rfl, hb⟩
    have e0 : splitR l at_ g = [] := by unfold splitR; rw [if_neg (by rw [he]; exact hk)]
    rw [he, e0]
    exact ⟨_, rfl, Kd.R_nil _ _ _ _ _, hb⟩
  rcases Bool.eq_false_or_eq_true (rightB l) with hR | hR
  · have hL := (rightB_iff l).1 hR
    by_cases hb : at_.toList.isEmpty = true ∨ 32 < at_.size ∨ g = 0
    · refine hn 1 (by decide) ?_ (rsplit_arg A c l at_ g w hr hl hs hR hb)
      unfold splitK
      rw [hR, if_pos rfl]
      rcases hb with hb | hb | hb
      · rw [is_empty hL hb]; simp
      · simp [hb]
      · simp [hb]
    · have h1 : at_.toList.isEmpty = false := by rcases Bool.eq_false_or_eq_true at_.toList.isEmpty with h | h; exact absurd (.inl h) hb; exact h
      have h2 : at_.size ≤ 32 := by
        rcases Nat.lt_or_ge 32 at_.size with h | h
        · exact absurd (.inr (.inl h)) hb
        · exact h
      have h3 : g ≠ 0 := fun h => hb (.inr (.inr h))
      rcases Bool.eq_false_or_eq_true (isL l at_) with hi | hi
      · refine hn 1 (by decide) ?_ (rsplit_is A c l at_ g w hr hl hs hR h1 h2 h3 hi)
        unfold splitK
        rw [hR, if_pos rfl, hi]; simp
      · have hk : splitK l at_ g = if l.length < 64 then 0 else 4 := by
          unfold splitK
          rw [hR, if_pos rfl, hi, if_neg (by simp; exact ⟨h2, h3⟩)]
        by_cases h4 : l.length < 64
        · rw [if_pos h4] at hk
          obtain ⟨i, hp, hat, _⟩ := place_at hL at_
          have e0 : splitR l at_ g = refSG l at_ g := by unfold splitR; rw [if_pos hk, hp, Int.toNat_natCast, refSG_eq hL hat]
          rw [hk, e0]
          exact rsplit_yes A c l at_ g w hr hl hs hR h1 h2 h3 hi h4
        · rw [if_neg h4] at hk
          exact hn 4 (by decide) hk (rsplit_full A c l at_ g w hr hl hs hR h1 h2 h3 hi (by omega))
  · refine hn 3 (by decide) ?_ (rsplit_form A c l at_ g w hr hl hs hR)
    unfold splitK
    rw [hR]; rfl
end Go.Proofs.Ytoemddjolfblbaa
