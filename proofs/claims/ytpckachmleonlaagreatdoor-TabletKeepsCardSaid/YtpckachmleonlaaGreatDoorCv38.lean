/- Words and walks for Split and Tablet: texts of these sessions, and of the kit's print, cut down to what is used (S4 T4). -/
import Derived.Test.YtpckachmleonlaaGreatDoorCv37
section
set_option linter.unusedVariables false
set_option linter.unusedSimpArgs false
namespace Go.Proofs.YtpckachmleonlaaGreatDoor
open Go.RowKit Go.Proofs.YtpckachmleonlaaGreatDoorW.PrintWords Go.Proofs.YtpckachmleonlaaGreatDoorW.PrintMore
attribute [local go_sem high] eqK46
attribute [local go_sem] max2_int max_two
theorem keyB_row (k : KeyM) : keyB k.f0 k.f1 k.f2 k.f3 k.f0 ⟨#[]⟩ ⟨#[]⟩ 0 = decide (k.f1.size = 0 ∧ k.f2.size = 0 ∧ k.f3 = 0) := by
 have h := keyB_eq k ⟨k.f0, ⟨#[]⟩, ⟨#[]⟩, 0⟩
 simp only at h
 rw [h]
 obtain ⟨r, f, q, t⟩ := k
 have he : ∀ s : ByteArray, s = ⟨#[]⟩ ↔ s.size = 0 := fun s => ⟨fun e => by rw [e]; rfl, fun e => by
  obtain ⟨⟨l⟩⟩ := s
  cases l with
  | nil => rfl
  | cons a l => cases e⟩
 simp [he]
set_option maxHeartbeats 4000000 in
set_option maxRecDepth 100000 in
theorem row_op (o : OpM) (A1 : Option Addr) (c1 : Nat) (A2 : Option Addr) (c2 : Nat) (A3 : Option Addr) (c3 : Nat) (w : World) : Calls Tryz.prog 132 #[opV o A1 c1 A2 c2 A3 c3] w fun e w' => e = .returned (.bool (rowB o.k)) ∧ Below w.heap.size w w' := by
 have HR : zAa (rowB o.k = (keyB o.k.f0 o.k.f1 o.k.f2 o.k.f3 o.k.f0 ⟨#[]⟩ ⟨#[]⟩ 0 && decide (o.k.f0.size ≤ 32))) := ⟨by
  rw [keyB_row]
  unfold rowB
  rw [Bool.eq_iff_iff]
  simp [and_assoc]⟩
 unfold opV
 generalize rowB o.k = q at HR ⊢
 obtain ⟨kb, hkb⟩ : ∃ kb, keyB o.k.f0 o.k.f1 o.k.f2 o.k.f3 o.k.f0 ⟨#[]⟩ ⟨#[]⟩ 0 = kb := ⟨_, rfl⟩
 rw [hkb] at HR
 cases kb
 ·have HQ : zAa (q = false) := ⟨HR.out⟩
  go_enter Tryz.func132, Tryz.ntmps132
  go_wp2_with fail
  go_ret
  exact ⟨by rw [HQ.out]; rfl, zAb (Below.refl _ _) _⟩
 ·rcases Nat.lt_or_ge 32 o.k.f0.size with h1 | h1
  ·have HQ : zAa (q = false) := ⟨by rw [HR.out, decide_eq_false (by omega)]; rfl⟩
   have d1 : decide ((o.k.f0.size : Int) ≤ 32) = false := Cp.df (by omega)
   have d2 : ¬ (o.k.f0.size : Int) ≤ 32 := by omega
   clear h1
   go_enter Tryz.func132, Tryz.ntmps132
   go_wp2_with fail
   go_ret
   exact ⟨by rw [HQ.out]; rfl, zAb (Below.refl _ _) _⟩
  ·have HQ : zAa (q = true) := ⟨by rw [HR.out, decide_eq_true h1]; rfl⟩
   have d1 : decide ((o.k.f0.size : Int) ≤ 32) = true := Cp.dt (by omega)
   have d2 : (o.k.f0.size : Int) ≤ 32 := by omega
   clear h1
   go_enter Tryz.func132, Tryz.ntmps132
   go_wp2_with fail
   go_ret
   exact ⟨by rw [HQ.out]; rfl, zAb (Below.refl _ _) _⟩
set_option maxHeartbeats 16000000 in
set_option maxRecDepth 100000 in
theorem spare_op (o : OpM) (A1 : Option Addr) (c1 : Nat) (A2 : Option Addr) (c2 : Nat) (A3 : Option Addr) (c3 : Nat) (w : World) : Calls Tryz.prog 104 #[opV o A1 c1 A2 c2 A3 c3] w fun e w' => e = .returned (.bool (spareB o)) ∧ Below w.heap.size w w' := by
 obtain ⟨bv, hbv⟩ : ∃ b, decide (0 < o.value.length) = b := ⟨_, rfl⟩
 obtain ⟨bw, hbw⟩ : ∃ b, decide (0 < o.want.length) = b := ⟨_, rfl⟩
 obtain ⟨bs, hbs⟩ : ∃ b, decide (0 < o.sub.length) = b := ⟨_, rfl⟩
 obtain ⟨be, hbe⟩ : ∃ b, o.to_.toList.isEmpty = b := ⟨_, rfl⟩
 obtain ⟨hs, hhs⟩ : ∃ hs, o.has = hs := ⟨_, rfl⟩
 have hbt : decide (o.to_.size ≠ 0) = !be := by
  cases be
  ·have := Cp.size_pos hbe; exact decide_eq_true (by omega)
  ·have := Cp.size_zero hbe; exact decide_eq_false (by omega)
 have HS : zAa (spareB o = ((bv && !(decide (o.kind = 1) || decide (o.kind = 5))) || ((hs || bw) && !decide (o.kind = 5)) || (bw && !hs) || (!be && !decide (o.kind = 8)) || (bs && !decide (o.kind = 6)))) := ⟨by unfold spareB; rw [hbv, hbw, hbs, hbt, hhs]⟩
 have gv : decide ((0 : Int) < (o.value.length : Int)) = bv := by rw [← hbv]; exact decide_eq_decide.2 (by omega)
 have gw : decide ((0 : Int) < (o.want.length : Int)) = bw := by rw [← hbw]; exact decide_eq_decide.2 (by omega)
 have gs : decide ((0 : Int) < (o.sub.length : Int)) = bs := by rw [← hbs]; exact decide_eq_decide.2 (by omega)
 have ge : (!o.to_.toList.isEmpty) = !be := by rw [hbe]
 unfold opV
 rw [hhs]
 clear hbt hhs
 obtain ⟨kd, hkd⟩ : ∃ kd, o.kind = kd := ⟨_, rfl⟩
 rw [hkd] at HS ⊢
 generalize spareB o = q at HS ⊢
 obtain ⟨nv, hnv⟩ : ∃ n, o.value.length = n := ⟨_, rfl⟩
 obtain ⟨nw, hnw⟩ : ∃ n, o.want.length = n := ⟨_, rfl⟩
 obtain ⟨ns, hns⟩ : ∃ n, o.sub.length = n := ⟨_, rfl⟩
 rw [hnv] at hbv gv ⊢
 rw [hnw] at hbw gw ⊢
 rw [hns] at hbs gs ⊢
 clear hkd hnv hnw hns
 have hkk : kd = 1 ∨ kd = 5 ∨ kd = 6 ∨ kd = 8 ∨ (kd ≠ 1 ∧ kd ≠ 5 ∧ kd ≠ 6 ∧ kd ≠ 8) := by omega
 rcases hkk with rfl | rfl | rfl | rfl | ⟨k1, k5, k6, k8⟩
 ·cases bv
  ·cases hs
   ·cases bw
    ·cases be
     ·go_enter Tryz.func104, Tryz.ntmps104
      go_wp2_with fail
      go_ret
      exact ⟨by rw [HS.out]; (first | rfl | simp | simp [*]), zAb (Below.refl _ _) _⟩
     ·cases bs
      ·go_enter Tryz.func104, Tryz.ntmps104
       go_wp2_with fail
       go_ret
       exact ⟨by rw [HS.out]; (first | rfl | simp | simp [*]), zAb (Below.refl _ _) _⟩
      ·go_enter Tryz.func104, Tryz.ntmps104
       go_wp2_with fail
       go_ret
       exact ⟨by rw [HS.out]; (first | rfl | simp | simp [*]), zAb (Below.refl _ _) _⟩
    ·go_enter Tryz.func104, Tryz.ntmps104
     go_wp2_with fail
     go_ret
     exact ⟨by rw [HS.out]; (first | rfl | simp | simp [*]), zAb (Below.refl _ _) _⟩
   ·go_enter Tryz.func104, Tryz.ntmps104
    go_wp2_with fail
    go_ret
    exact ⟨by rw [HS.out]; (first | rfl | simp | simp [*]), zAb (Below.refl _ _) _⟩
  ·cases hs
   ·cases bw
    ·cases be
     ·go_enter Tryz.func104, Tryz.ntmps104
      go_wp2_with fail
      go_ret
      exact ⟨by rw [HS.out]; (first | rfl | simp | simp [*]), zAb (Below.refl _ _) _⟩
     ·cases bs
      ·go_enter Tryz.func104, Tryz.ntmps104
       go_wp2_with fail
       go_ret
       exact ⟨by rw [HS.out]; (first | rfl | simp | simp [*]), zAb (Below.refl _ _) _⟩
      ·go_enter Tryz.func104, Tryz.ntmps104
       go_wp2_with fail
       go_ret
       exact ⟨by rw [HS.out]; (first | rfl | simp | simp [*]), zAb (Below.refl _ _) _⟩
    ·go_enter Tryz.func104, Tryz.ntmps104
     go_wp2_with fail
     go_ret
     exact ⟨by rw [HS.out]; (first | rfl | simp | simp [*]), zAb (Below.refl _ _) _⟩
   ·go_enter Tryz.func104, Tryz.ntmps104
    go_wp2_with fail
    go_ret
    exact ⟨by rw [HS.out]; (first | rfl | simp | simp [*]), zAb (Below.refl _ _) _⟩
 ·cases bv
  ·cases hs
   ·cases bw
    ·cases be
     ·go_enter Tryz.func104, Tryz.ntmps104
      go_wp2_with fail
      go_ret
      exact ⟨by rw [HS.out]; (first | rfl | simp | simp [*]), zAb (Below.refl _ _) _⟩
     ·cases bs
      ·go_enter Tryz.func104, Tryz.ntmps104
       go_wp2_with fail
       go_ret
       exact ⟨by rw [HS.out]; (first | rfl | simp | simp [*]), zAb (Below.refl _ _) _⟩
      ·go_enter Tryz.func104, Tryz.ntmps104
       go_wp2_with fail
       go_ret
       exact ⟨by rw [HS.out]; (first | rfl | simp | simp [*]), zAb (Below.refl _ _) _⟩
    ·go_enter Tryz.func104, Tryz.ntmps104
     go_wp2_with fail
     go_ret
     exact ⟨by rw [HS.out]; (first | rfl | simp | simp [*]), zAb (Below.refl _ _) _⟩
   ·cases bw
    ·cases be
     ·go_enter Tryz.func104, Tryz.ntmps104
      go_wp2_with fail
      go_ret
      exact ⟨by rw [HS.out]; (first | rfl | simp | simp [*]), zAb (Below.refl _ _) _⟩
     ·cases bs
      ·go_enter Tryz.func104, Tryz.ntmps104
       go_wp2_with fail
       go_ret
       exact ⟨by rw [HS.out]; (first | rfl | simp | simp [*]), zAb (Below.refl _ _) _⟩
      ·go_enter Tryz.func104, Tryz.ntmps104
       go_wp2_with fail
       go_ret
       exact ⟨by rw [HS.out]; (first | rfl | simp | simp [*]), zAb (Below.refl _ _) _⟩
    ·cases be
     ·go_enter Tryz.func104, Tryz.ntmps104
      go_wp2_with fail
      go_ret
      exact ⟨by rw [HS.out]; (first | rfl | simp | simp [*]), zAb (Below.refl _ _) _⟩
     ·cases bs
      ·go_enter Tryz.func104, Tryz.ntmps104
       go_wp2_with fail
       go_ret
       exact ⟨by rw [HS.out]; (first | rfl | simp | simp [*]), zAb (Below.refl _ _) _⟩
      ·go_enter Tryz.func104, Tryz.ntmps104
       go_wp2_with fail
       go_ret
       exact ⟨by rw [HS.out]; (first | rfl | simp | simp [*]), zAb (Below.refl _ _) _⟩
  ·cases hs
   ·cases bw
    ·cases be
     ·go_enter Tryz.func104, Tryz.ntmps104
      go_wp2_with fail
      go_ret
      exact ⟨by rw [HS.out]; (first | rfl | simp | simp [*]), zAb (Below.refl _ _) _⟩
     ·cases bs
      ·go_enter Tryz.func104, Tryz.ntmps104
       go_wp2_with fail
       go_ret
       exact ⟨by rw [HS.out]; (first | rfl | simp | simp [*]), zAb (Below.refl _ _) _⟩
      ·go_enter Tryz.func104, Tryz.ntmps104
       go_wp2_with fail
       go_ret
       exact ⟨by rw [HS.out]; (first | rfl | simp | simp [*]), zAb (Below.refl _ _) _⟩
    ·go_enter Tryz.func104, Tryz.ntmps104
     go_wp2_with fail
     go_ret
     exact ⟨by rw [HS.out]; (first | rfl | simp | simp [*]), zAb (Below.refl _ _) _⟩
   ·cases bw
    ·cases be
     ·go_enter Tryz.func104, Tryz.ntmps104
      go_wp2_with fail
      go_ret
      exact ⟨by rw [HS.out]; (first | rfl | simp | simp [*]), zAb (Below.refl _ _) _⟩
     ·cases bs
      ·go_enter Tryz.func104, Tryz.ntmps104
       go_wp2_with fail
       go_ret
       exact ⟨by rw [HS.out]; (first | rfl | simp | simp [*]), zAb (Below.refl _ _) _⟩
      ·go_enter Tryz.func104, Tryz.ntmps104
       go_wp2_with fail
       go_ret
       exact ⟨by rw [HS.out]; (first | rfl | simp | simp [*]), zAb (Below.refl _ _) _⟩
    ·cases be
     ·go_enter Tryz.func104, Tryz.ntmps104
      go_wp2_with fail
      go_ret
      exact ⟨by rw [HS.out]; (first | rfl | simp | simp [*]), zAb (Below.refl _ _) _⟩
     ·cases bs
      ·go_enter Tryz.func104, Tryz.ntmps104
       go_wp2_with fail
       go_ret
       exact ⟨by rw [HS.out]; (first | rfl | simp | simp [*]), zAb (Below.refl _ _) _⟩
      ·go_enter Tryz.func104, Tryz.ntmps104
       go_wp2_with fail
       go_ret
       exact ⟨by rw [HS.out]; (first | rfl | simp | simp [*]), zAb (Below.refl _ _) _⟩
 ·cases bv
  ·cases hs
   ·cases bw
    ·cases be
     ·go_enter Tryz.func104, Tryz.ntmps104
      go_wp2_with fail
      go_ret
      exact ⟨by rw [HS.out]; (first | rfl | simp | simp [*]), zAb (Below.refl _ _) _⟩
     ·cases bs
      ·go_enter Tryz.func104, Tryz.ntmps104
       go_wp2_with fail
       go_ret
       exact ⟨by rw [HS.out]; (first | rfl | simp | simp [*]), zAb (Below.refl _ _) _⟩
      ·go_enter Tryz.func104, Tryz.ntmps104
       go_wp2_with fail
       go_ret
       exact ⟨by rw [HS.out]; (first | rfl | simp | simp [*]), zAb (Below.refl _ _) _⟩
    ·go_enter Tryz.func104, Tryz.ntmps104
     go_wp2_with fail
     go_ret
     exact ⟨by rw [HS.out]; (first | rfl | simp | simp [*]), zAb (Below.refl _ _) _⟩
   ·go_enter Tryz.func104, Tryz.ntmps104
    go_wp2_with fail
    go_ret
    exact ⟨by rw [HS.out]; (first | rfl | simp | simp [*]), zAb (Below.refl _ _) _⟩
  ·go_enter Tryz.func104, Tryz.ntmps104
   go_wp2_with fail
   go_ret
   exact ⟨by rw [HS.out]; (first | rfl | simp | simp [*]), zAb (Below.refl _ _) _⟩
 ·cases bv
  ·cases hs
   ·cases bw
    ·cases be
     ·cases bs
      ·go_enter Tryz.func104, Tryz.ntmps104
       go_wp2_with fail
       go_ret
       exact ⟨by rw [HS.out]; (first | rfl | simp | simp [*]), zAb (Below.refl _ _) _⟩
      ·go_enter Tryz.func104, Tryz.ntmps104
       go_wp2_with fail
       go_ret
       exact ⟨by rw [HS.out]; (first | rfl | simp | simp [*]), zAb (Below.refl _ _) _⟩
     ·cases bs
      ·go_enter Tryz.func104, Tryz.ntmps104
       go_wp2_with fail
       go_ret
       exact ⟨by rw [HS.out]; (first | rfl | simp | simp [*]), zAb (Below.refl _ _) _⟩
      ·go_enter Tryz.func104, Tryz.ntmps104
       go_wp2_with fail
       go_ret
       exact ⟨by rw [HS.out]; (first | rfl | simp | simp [*]), zAb (Below.refl _ _) _⟩
    ·go_enter Tryz.func104, Tryz.ntmps104
     go_wp2_with fail
     go_ret
     exact ⟨by rw [HS.out]; (first | rfl | simp | simp [*]), zAb (Below.refl _ _) _⟩
   ·go_enter Tryz.func104, Tryz.ntmps104
    go_wp2_with fail
    go_ret
    exact ⟨by rw [HS.out]; (first | rfl | simp | simp [*]), zAb (Below.refl _ _) _⟩
  ·go_enter Tryz.func104, Tryz.ntmps104
   go_wp2_with fail
   go_ret
   exact ⟨by rw [HS.out]; (first | rfl | simp | simp [*]), zAb (Below.refl _ _) _⟩
 ·have e1 : (kd == 1) = false := by simpa using k1
  have e5 : (kd == 5) = false := by simpa using k5
  have e6 : (kd == 6) = false := by simpa using k6
  have e8 : (kd == 8) = false := by simpa using k8
  have n6 : (kd != 6) = true := by simpa using k6
  have n8 : (kd != 8) = true := by simpa using k8
  rw [decide_eq_false k1, decide_eq_false k5, decide_eq_false k6, decide_eq_false k8] at HS
  clear k1 k5 k6 k8
  cases bv
  ·cases hs
   ·cases bw
    ·cases be
     ·go_enter Tryz.func104, Tryz.ntmps104
      go_wp2_with fail
      go_ret
      exact ⟨by rw [HS.out]; (first | rfl | simp | simp [*]), zAb (Below.refl _ _) _⟩
     ·cases bs
      ·go_enter Tryz.func104, Tryz.ntmps104
       go_wp2_with fail
       go_ret
       exact ⟨by rw [HS.out]; (first | rfl | simp | simp [*]), zAb (Below.refl _ _) _⟩
      ·go_enter Tryz.func104, Tryz.ntmps104
       go_wp2_with fail
       go_ret
       exact ⟨by rw [HS.out]; (first | rfl | simp | simp [*]), zAb (Below.refl _ _) _⟩
    ·go_enter Tryz.func104, Tryz.ntmps104
     go_wp2_with fail
     go_ret
     exact ⟨by rw [HS.out]; (first | rfl | simp | simp [*]), zAb (Below.refl _ _) _⟩
   ·go_enter Tryz.func104, Tryz.ntmps104
    go_wp2_with fail
    go_ret
    exact ⟨by rw [HS.out]; (first | rfl | simp | simp [*]), zAb (Below.refl _ _) _⟩
  ·go_enter Tryz.func104, Tryz.ntmps104
   go_wp2_with fail
   go_ret
   exact ⟨by rw [HS.out]; (first | rfl | simp | simp [*]), zAb (Below.refl _ _) _⟩
end Go.Proofs.YtpckachmleonlaaGreatDoor
end
section
set_option linter.unusedVariables false
set_option linter.unusedSimpArgs false
namespace Go.Proofs.YtpckachmleonlaaGreatDoor
open Go.RowKit Go.Proofs.YtpckachmleonlaaGreatDoorW.PrintWords Go.Proofs.YtpckachmleonlaaGreatDoorW.PrintMore
attribute [local go_sem] max2_int max_two
def rightB (o : OpM) : Bool := if o.kind = 6 then o.sub.all (subB o.k.f0) && decide (1 ≤ o.sub.length) && decide (o.sub.length ≤ 8) && rowB o.k && decide (o.k.f0.size ≠ 0) else leafK o
theorem opB_eq (o : OpM) : opB o = (rightB o && !spareB o && valsB o) := by
 unfold opB rightB leafB
 split <;> rfl
set_option maxHeartbeats 8000000 in
set_option maxRecDepth 100000 in
theorem right_by (o : OpM) (A1 : Option Addr) (c1 : Nat) (A2 : Option Addr) (c2 : Nat) (A3 : Option Addr) (c3 : Nat) (w : World) (hr : ∀ X, Below w.heap.size w X → Calls Tryz.prog 103 #[opV o A1 c1 A2 c2 A3 c3] X fun e w' => e = .returned (.bool (rightB o)) ∧ Below X.heap.size X w') :
  Calls Tryz.prog 62 #[opV o A1 c1 A2 c2 A3 c3] w fun e w' => e = .returned (.int .i64 (if opB o then 0 else 6)) ∧ Below w.heap.size w w' := by
 have HR := zAa.mk hr
 have HSP : zAa (∀ X : World, Calls Tryz.prog 104 #[opV o A1 c1 A2 c2 A3 c3] X fun e w' => e = .returned (.bool (spareB o)) ∧ Below X.heap.size X w') := ⟨fun X => spare_op o A1 c1 A2 c2 A3 c3 X⟩
 have HO := zAa.mk (opB_eq o)
 have HB1 : zAa (Below w.heap.size w (w.alloc (.cells (opCs o A1 c1 A2 c2 A3 c3) 56))) := ⟨zAb (Below.refl _ _) _⟩
 have HG1 : zAa ((w.alloc (.cells (opCs o A1 c1 A2 c2 A3 c3) 56)).heap[w.heap.size]? = some (.cells (opCs o A1 c1 A2 c2 A3 c3) 56 (0, 0))) := ⟨heap_alloc_new _ _⟩
 have HV : zAa (valsB o = decide (max o.value.length o.want.length ≤ 256)) := ⟨by
  unfold valsB
  rw [Bool.eq_iff_iff]
  simp only [Bool.and_eq_true, decide_eq_true_eq]
  omega⟩
 generalize opB o = q at HO ⊢
 generalize rightB o = r at HR HO
 generalize spareB o = s at HSP HO
 generalize valsB o = v at HV HO
 obtain ⟨i, hi⟩ : ∃ i : Int, (if q = true then (0 : Int) else 6) = i := ⟨_, rfl⟩
 have HI := zAa.mk hi
 rw [hi]
 clear hi
 unfold opV at HR HSP ⊢
 clear hr
 go_enter Tryz.func62, Tryz.ntmps62
 go_wp2_with fail
 refine (HR.out _ HB1.out).mono ?_
 rintro e w2 ⟨rfl, hb⟩
 have HB2 : zAa (Below w.heap.size w w2) := ⟨HB1.out.trans (hb.mono HB1.out.size)⟩
 have HG2 := zAa.mk (zAf HG1.out hb)
 clear hb HB1 HG1 HR
 obtain ⟨q0, q1, q2, q3, q4, q5, q6, q7, q8, q9, hlg⟩ := opBlk (o := o) HG2.out
 cases r
 ·have HQ : zAa (q = false) := ⟨HO.out⟩
  go_wp2_with fail
  go_ret
  exact ⟨by rw [← HI.out, HQ.out]; rfl, HB2.out⟩
 go_wp2_with fail
 refine (HSP.out _).mono ?_
 rintro e w3 ⟨rfl, hb⟩
 have HB3 : zAa (Below w.heap.size w w3) := ⟨HB2.out.trans (hb.mono HB2.out.size)⟩
 have HG3 := zAa.mk (zAf HG2.out hb)
 clear hb HB2 HG2 HSP q0 q1 q2 q3 q4 q5 q6 q7 q8 q9 hlg
 obtain ⟨q0, q1, q2, q3, q4, q5, q6, q7, q8, q9, hlg⟩ := opBlk (o := o) HG3.out
 cases s
 case true =>
  have HQ : zAa (q = false) := ⟨HO.out⟩
  go_wp2_with fail
  go_ret
  exact ⟨by rw [← HI.out, HQ.out]; rfl, HB3.out⟩
 obtain ⟨nv, hnv⟩ : ∃ n, o.value.length = n := ⟨_, rfl⟩
 obtain ⟨nw, hnw⟩ : ∃ n, o.want.length = n := ⟨_, rfl⟩
 rw [hnv, hnw] at HV
 rw [hnv] at q6
 rw [hnw] at q7
 clear hnv hnw
 rcases Nat.lt_or_ge nv nw with hlt | hlt
 ·have y1 : nv < nw := hlt
  have y2 : (nv : Int) < (nw : Int) := by omega
  have hmx : max nv nw = nw := by omega
  rw [hmx] at HV
  clear hmx hlt
  rcases Nat.lt_or_ge 256 nw with h1 | h1
  ·have HQ : zAa (q = false) := ⟨by rw [HO.out, HV.out, decide_eq_false (by omega)]; rfl⟩
   have d1 : decide ((256 : Int) < (nw : Int)) = true := Cp.dt (by omega)
   have d2 : (256 : Int) < (nw : Int) := by omega
   have d3 : 256 < nw := h1
   clear h1
   go_wp2_with fail
   go_ret
   exact ⟨by rw [← HI.out, HQ.out]; rfl, HB3.out⟩
  ·have HQ : zAa (q = true) := ⟨by rw [HO.out, HV.out, decide_eq_true h1]; rfl⟩
   have d1 : decide ((256 : Int) < (nw : Int)) = false := Cp.df (by omega)
   have d2 : ¬ (256 : Int) < (nw : Int) := by omega
   have d3 : ¬ 256 < nw := by omega
   clear h1
   go_wp2_with fail
   go_ret
   exact ⟨by rw [← HI.out, HQ.out]; rfl, HB3.out⟩
 ·have y1 : ¬ nv < nw := by omega
  have y2 : ¬ (nv : Int) < (nw : Int) := by omega
  have hmx : max nv nw = nv := by omega
  rw [hmx] at HV
  clear hmx hlt
  rcases Nat.lt_or_ge 256 nv with h1 | h1
  ·have HQ : zAa (q = false) := ⟨by rw [HO.out, HV.out, decide_eq_false (by omega)]; rfl⟩
   have d1 : decide ((256 : Int) < (nv : Int)) = true := Cp.dt (by omega)
   have d2 : (256 : Int) < (nv : Int) := by omega
   have d3 : 256 < nv := h1
   clear h1
   go_wp2_with fail
   go_ret
   exact ⟨by rw [← HI.out, HQ.out]; rfl, HB3.out⟩
  ·have HQ : zAa (q = true) := ⟨by rw [HO.out, HV.out, decide_eq_true h1]; rfl⟩
   have d1 : decide ((256 : Int) < (nv : Int)) = false := Cp.df (by omega)
   have d2 : ¬ (256 : Int) < (nv : Int) := by omega
   have d3 : ¬ 256 < nv := by omega
   clear h1
   go_wp2_with fail
   go_ret
   exact ⟨by rw [← HI.out, HQ.out]; rfl, HB3.out⟩
set_option maxHeartbeats 8000000 in
set_option maxRecDepth 100000 in
theorem right_leaf (o : OpM) (hk : o.kind ≠ 6) (A1 : Option Addr) (c1 : Nat) (A2 : Option Addr) (c2 : Nat) (A3 : Option Addr) (c3 : Nat) (w : World) : Calls Tryz.prog 103 #[opV o A1 c1 A2 c2 A3 c3] w fun e w' => e = .returned (.bool (rightB o)) ∧ Below w.heap.size w w' := by
 have HRB : zAa (rightB o = leafK o) := ⟨by unfold rightB; rw [if_neg hk]⟩
 have HCR : zAa (∀ X : World, Calls Tryz.prog 74 #[.agg #[.string o.k.f0, .string o.k.f1, .string o.k.f2, .int .u64 o.k.f3]] X fun e w' => ∃ i, e = .returned (.int .i64 i) ∧ (i == 0) = keyG o.k ∧ Below X.heap.size X w') := ⟨fun X => (Cp.right_any _ _ _ _ X).mono fun e w' h => ⟨_, h.1, by
  unfold keyG
  cases hb : Cp.okB o.k.f0 o.k.f1 o.k.f2 with
  | true => rw [Cp.rightI_ok hb]; rfl
  | false => rw [Cp.rightI_bad hb]; rfl, h.2⟩⟩
 have HRW : zAa (∀ X : World, Calls Tryz.prog 132 #[opV o A1 c1 A2 c2 A3 c3] X fun e w' => e = .returned (.bool (rowB o.k)) ∧ Below X.heap.size X w') := ⟨fun X => row_op o A1 c1 A2 c2 A3 c3 X⟩
 have HB1 : zAa (Below w.heap.size w (w.alloc (.cells (opCs o A1 c1 A2 c2 A3 c3) 56))) := ⟨zAb (Below.refl _ _) _⟩
 have HG1 : zAa ((w.alloc (.cells (opCs o A1 c1 A2 c2 A3 c3) 56)).heap[w.heap.size]? = some (.cells (opCs o A1 c1 A2 c2 A3 c3) 56 (0, 0))) := ⟨heap_alloc_new _ _⟩
 have HLK : zAa (leafK o = if o.kind = 3 ∨ o.kind = 7 then decide (o.k.f3 = 0) && keyG o.k else if o.kind = 1 ∨ o.kind = 2 ∨ o.kind = 5 then keyG o.k else if o.kind = 4 then rowB o.k && decide (o.k.f0.size ≠ 0) else if o.kind = 8 then rowB o.k && decide (o.to_.size ≤ 32) else false) := ⟨rfl⟩
 rw [HLK.out] at HRB
 generalize rightB o = q at HRB ⊢
 generalize keyG o.k = kg at HCR HRB
 generalize rowB o.k = rb at HRW HRB
 unfold opV at HRW ⊢
 unfold opCs at HB1 HG1
 clear HLK
 have hkk : (o.kind = 3 ∨ o.kind = 7) ∨ (o.kind = 1 ∨ o.kind = 2 ∨ o.kind = 5) ∨ o.kind = 4 ∨ o.kind = 8 ∨ (o.kind ≠ 1 ∧ o.kind ≠ 2 ∧ o.kind ≠ 3 ∧ o.kind ≠ 4 ∧ o.kind ≠ 5 ∧ o.kind ≠ 7 ∧ o.kind ≠ 8) := by omega
 rcases hkk with hk3 | hk1 | hk4 | hk8 | hno
 ·rw [if_pos hk3] at HRB
  rcases hk3 with e | e
  all_goals (
   rw [e] at HRW HB1 HG1 ⊢
   clear e hk
   by_cases ht : o.k.f3 = 0
   ·rw [decide_eq_true ht] at HRB
    have t1 : (o.k.f3 == 0) = true := by simpa using ht
    have t2 : (o.k.f3 != 0) = false := by simpa using ht
    clear ht
    go_enter Tryz.func103, Tryz.ntmps103
    go_wp2_with fail
    refine (HCR.out _).mono ?_
    rintro e w2 ⟨i, rfl, hi, hb⟩
    have HQ : zAa (q = kg ∧ Below w.heap.size w w2) := ⟨by rw [HRB.out]; rfl, HB1.out.trans (hb.mono HB1.out.size)⟩
    clear hb
    go_wp2_with fail
    go_ret
    exact ⟨by rw [HQ.out.1]; rfl, HQ.out.2⟩
   ·rw [decide_eq_false ht] at HRB
    have t1 : (o.k.f3 == 0) = false := by simpa using ht
    have t2 : (o.k.f3 != 0) = true := by simpa using ht
    clear ht
    go_enter Tryz.func103, Tryz.ntmps103
    go_wp2_with fail
    go_ret
    exact ⟨by rw [HRB.out]; rfl, HB1.out⟩)
 ·rw [if_neg (by omega), if_pos hk1] at HRB
  rcases hk1 with e | e | e
  all_goals (
   rw [e] at HRW HB1 HG1 ⊢
   clear e hk
   go_enter Tryz.func103, Tryz.ntmps103
   go_wp2_with fail
   refine (HCR.out _).mono ?_
   rintro e w2 ⟨i, rfl, hi, hb⟩
   have HQ : zAa (q = kg ∧ Below w.heap.size w w2) := ⟨by rw [HRB.out], HB1.out.trans (hb.mono HB1.out.size)⟩
   clear hb
   go_wp2_with fail
   go_ret
   exact ⟨by rw [HQ.out.1]; rfl, HQ.out.2⟩)
 ·rw [if_neg (by omega), if_neg (by omega), if_pos hk4] at HRB
  rw [hk4] at HRW HB1 HG1 ⊢
  clear hk hk4
  obtain ⟨be, hbe⟩ : ∃ b, o.k.f0.toList.isEmpty = b := ⟨_, rfl⟩
  have hbt : decide (o.k.f0.size ≠ 0) = !be := by
   cases be
   ·have := Cp.size_pos hbe; exact decide_eq_true (by omega)
   ·have := Cp.size_zero hbe; exact decide_eq_false (by omega)
  have ge : (!o.k.f0.toList.isEmpty) = !be := by rw [hbe]
  rw [hbt] at HRB
  clear hbt
  go_enter Tryz.func103, Tryz.ntmps103
  go_wp2_with fail
  refine (HRW.out _).mono ?_
  rintro e w2 ⟨rfl, hb⟩
  have HB2 : zAa (Below w.heap.size w w2) := ⟨HB1.out.trans (hb.mono HB1.out.size)⟩
  have HG2 := zAa.mk (zAf HG1.out hb)
  have p1 := (zAc HG2.out 1).trans (rfl : _ = some (Value.string o.k.f0))
  have hlg := zAj HG2.out
  clear hb HRW HB1 HG1 HCR
  cases rb
  ·have HQ : zAa (q = false) := ⟨HRB.out⟩
   go_wp2_with fail
   go_ret
   exact ⟨by rw [HQ.out]; rfl, HB2.out⟩
  ·have HQ : zAa (q = !be) := ⟨by rw [HRB.out]; rfl⟩
   cases be
   all_goals (
    go_wp2_with fail
    go_ret
    exact ⟨by rw [HQ.out]; rfl, HB2.out⟩)
 ·rw [if_neg (by omega), if_neg (by omega), if_neg (by omega), if_pos hk8] at HRB
  rw [hk8] at HRW HB1 HG1 ⊢
  clear hk hk8
  go_enter Tryz.func103, Tryz.ntmps103
  go_wp2_with fail
  refine (HRW.out _).mono ?_
  rintro e w2 ⟨rfl, hb⟩
  have HB2 : zAa (Below w.heap.size w w2) := ⟨HB1.out.trans (hb.mono HB1.out.size)⟩
  have HG2 := zAa.mk (zAf HG1.out hb)
  have p1 := (zAc HG2.out 5).trans (rfl : _ = some (Value.string o.to_))
  have hlg := zAj HG2.out
  clear hb HRW HB1 HG1 HCR
  cases rb
  ·have HQ : zAa (q = false) := ⟨HRB.out⟩
   go_wp2_with fail
   go_ret
   exact ⟨by rw [HQ.out]; rfl, HB2.out⟩
  ·rcases Nat.lt_or_ge 32 o.to_.size with h1 | h1
   ·have HQ : zAa (q = false) := ⟨by rw [HRB.out, decide_eq_false (by omega)]; rfl⟩
    have d1 : decide ((o.to_.size : Int) ≤ 32) = false := Cp.df (by omega)
    have d2 : ¬ (o.to_.size : Int) ≤ 32 := by omega
    clear h1
    go_wp2_with fail
    go_ret
    exact ⟨by rw [HQ.out]; rfl, HB2.out⟩
   ·have HQ : zAa (q = true) := ⟨by rw [HRB.out, decide_eq_true h1]; rfl⟩
    have d1 : decide ((o.to_.size : Int) ≤ 32) = true := Cp.dt (by omega)
    have d2 : (o.to_.size : Int) ≤ 32 := by omega
    clear h1
    go_wp2_with fail
    go_ret
    exact ⟨by rw [HQ.out]; rfl, HB2.out⟩
 ·obtain ⟨n1, n2, n3, n4, n5, n7, n8⟩ := hno
  rw [if_neg (by omega), if_neg (by omega), if_neg n4, if_neg n8] at HRB
  have e1 : (o.kind == 1) = false := by simpa using n1
  have e2 : (o.kind == 2) = false := by simpa using n2
  have e3 : (o.kind == 3) = false := by simpa using n3
  have e4 : (o.kind == 4) = false := by simpa using n4
  have e5 : (o.kind == 5) = false := by simpa using n5
  have e6 : (o.kind == 6) = false := by simpa using hk
  have e7 : (o.kind == 7) = false := by simpa using n7
  have e8 : (o.kind == 8) = false := by simpa using n8
  clear n1 n2 n3 n4 n5 n7 n8 hk
  go_enter Tryz.func103, Tryz.ntmps103
  go_wp2_with fail
  go_ret
  exact ⟨by rw [HRB.out]; rfl, HB1.out⟩
theorem opR_leaf (o : OpM) (hk : o.kind ≠ 6) (A1 : Option Addr) (c1 : Nat) (A2 : Option Addr) (c2 : Nat) (A3 : Option Addr) (c3 : Nat) (w : World) : Calls Tryz.prog 62 #[opV o A1 c1 A2 c2 A3 c3] w fun e w' => e = .returned (.int .i64 (if opB o then 0 else 6)) ∧ Below w.heap.size w w' :=
 right_by o A1 c1 A2 c2 A3 c3 w fun X _ => right_leaf o hk A1 c1 A2 c2 A3 c3 X
end Go.Proofs.YtpckachmleonlaaGreatDoor
end
