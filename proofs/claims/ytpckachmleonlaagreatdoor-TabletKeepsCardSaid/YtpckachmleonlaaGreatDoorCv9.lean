/- Words and walks for Split and Tablet: texts of these sessions, and of the kit's print, cut down to what is used (J K K2). -/
import Derived.Test.YtpckachmleonlaaGreatDoorCv8
import Derived.Lib.SlBytesConst
import Derived.Lib.Bytealg
section
set_option linter.unusedVariables false
set_option linter.unusedSimpArgs false
namespace Go.Proofs.YtpckachmleonlaaGreatDoor
open Go.RowKit Go.Proofs.YtpckachmleonlaaGreatDoorW.PrintWords
set_option maxHeartbeats 1000000 in
theorem at_any (A : Option Addr) (c : Nat) (xs : List (List Int)) (i : Nat) (w : World) (hr : Kd.C (Kd.slice 5 kB) w A xs.length xs) (hi : i ≤ 1000000) :
  Calls Tryz.prog 175 #[.slice A xs.length c, .int .i64 i] w fun e w' => w' = w ∧ ∃ A0 c0, e = .returned (.slice A0 (rd_L xs i).length c0) ∧ (rd_L xs i).length ≤ c0 ∧ kB.C w A0 (rd_L xs i).length (rd_L xs i) := by
 have HR := zAa.mk hr
 obtain ⟨n, hn⟩ : ∃ n, xs.length = n := ⟨_, rfl⟩
 have HN := zAa.mk hn
 rw [hn] at HR ⊢
 clear hr hn
 by_cases hlt : i < n
 ·have h1 : (i : Int) < n := by omega
  obtain ⟨ad, A0, c0, rfl, hb, k1, k2, k3⟩ := rowAt HR.out i hlt
  have HK := zAa.mk k3
  clear k3
  go_enter Tryz.func175, Tryz.ntmps175
  go_wp2_with fail
  go_ret
  exact ⟨rfl, A0, c0, rfl, k2, HK.out⟩
 ·have h1 : ¬ ((i : Int) < n) := by omega
  have HE : zAa (rd_L xs i = []) := ⟨by unfold rd_L; rw [List.getD_eq_getElem?_getD, List.getElem?_eq_none (by rw [HN.out]; omega)]; rfl⟩
  go_enter Tryz.func175, Tryz.ntmps175
  go_wp2_with fail
  go_ret
  exact ⟨rfl, none, 0, by rw [HE.out]; rfl, by rw [HE.out]; exact Nat.le_refl _, by rw [HE.out]; exact C_nil w⟩
def nodeB : List Int := [110, 111, 100, 101]
def rowF (keys sums kids : List (List Int)) (i : Nat) : List Int := wireM (rd_L keys i) ++ wireM (rd_L sums i) ++ wireM (rd_L kids (i + 1))
def formTo (level : Nat) (keys sums kids : List (List Int)) : Nat → List Int
 | 0 => wireM nodeB ++ uvar level ++ uvar keys.length ++ wireM (rd_L kids 0)
 | i + 1 => formTo level keys sums kids i ++ rowF keys sums kids i
theorem wireM_len (p : List Int) : (wireM p).length ≤ p.length + 11 := by
 unfold wireM
 rw [List.length_append]
 have := uvar_len p.length
 omega
theorem formTo_len {level : Nat} {keys sums kids : List (List Int)} (h1 : ∀ i, (rd_L keys i).length ≤ 300) (h2 : ∀ i, (rd_L sums i).length ≤ 100) (h3 : ∀ i, (rd_L kids i).length ≤ 100) : ∀ i, (formTo level keys sums kids i).length ≤ 200 + i * 600
 | 0 => by
  rw [formTo]
  simp only [List.length_append]
  have := uvar_len level
  have := uvar_len keys.length
  have := wireM_len nodeB
  have := wireM_len (rd_L kids 0)
  have := h3 0
  have e : nodeB.length = 4 := rfl
  omega
 | i + 1 => by
  rw [formTo, rowF]
  simp only [List.length_append]
  have := formTo_len (level := level) h1 h2 h3 i
  have := wireM_len (rd_L keys i)
  have := wireM_len (rd_L sums i)
  have := wireM_len (rd_L kids (i + 1))
  have := h1 i
  have := h2 i
  have := h3 (i + 1)
  omega
def formM (level : Nat) (keys sums kids : List (List Int)) : List Int := formTo level keys sums kids keys.length
theorem C_node {w : World} {g : Nat} {fz : Nat × Nat} (h : w.heap[g]? = some (.cells #[.int .u8 110, .int .u8 111, .int .u8 100, .int .u8 101] 5 fz)) : Kd.C kB w (some ⟨g, 0, none⟩) nodeB.length nodeB := by
 refine Kd.C_of_reads (d := 0) ⟨rfl, by simp [nodeB], fun _ => ⟨_, rfl, fun j hj => ?_⟩⟩
 have hj4 : j < 4 := hj
 rw [Addr.add_mid, cell_of_row w g _ _ 5 fz h]
 rcases (by omega : j = 0 ∨ j = 1 ∨ j = 2 ∨ j = 3) with rfl | rfl | rfl | rfl <;> rfl
structure FB (w W : World) (v : Value) (l : List Int) : Prop where
 row : Kd.R kB 5 W w.heap.size (fun _ => True) v l
 below : Below w.heap.size w W
theorem uint_st {w W : World} {A : Option Addr} {c : Nat} {l : List Int} (h : FB w W (.slice A l.length c) l) (n : Nat) (hl : l.length ≤ 900000) (hn : n < 18446744073709551616) :
  Calls Tryz.prog 100 #[.slice A l.length c, .int .u64 n] W fun e w' => ∃ A' c', e = .returned (.slice A' (l ++ uvar n).length c') ∧ FB w w' (.slice A' (l ++ uvar n).length c') (l ++ uvar n) := by
 refine (uint_any A c l n W (R_cap h.row).2 (R_cap h.row).1 hl hn).mono ?_
 rintro e w' ⟨v, rfl, hr, hb⟩
 have hr2 := Kd.zCj hr h.below.size
 obtain ⟨A', c', e'⟩ := Kd.zAk hr2
 subst e'
 exact ⟨A', c', rfl, hr2, h.below.trans (hb.mono h.below.size)⟩
theorem bytes_st {w W : World} {A : Option Addr} {c : Nat} {l : List Int} (h : FB w W (.slice A l.length c) l) (B : Option Addr) (d : Nat) (x : List Int) (hl : l.length ≤ 400000) (hx : Kd.C kB W B x.length x) (hd : x.length ≤ d) (hm : x.length ≤ 400000) :
  Calls Tryz.prog 101 #[.slice A l.length c, .slice B x.length d] W fun e w' => ∃ A' c', e = .returned (.slice A' (l ++ wireM x).length c') ∧ FB w w' (.slice A' (l ++ wireM x).length c') (l ++ wireM x) ∧ Below W.heap.size W w' := by
 refine (bytes_any A c l B d x W (R_cap h.row).2 (R_cap h.row).1 hl hx hd hm).mono ?_
 rintro e w' ⟨v, rfl, hr, hb⟩
 rw [List.append_assoc] at hr
 have hr2 := Kd.zCj hr h.below.size
 obtain ⟨A', c', e'⟩ := Kd.zAk hr2
 subst e'
 exact ⟨A', c', rfl, ⟨hr2, h.below.trans (hb.mono h.below.size)⟩, hb⟩
set_option maxHeartbeats 4000000 in
set_option maxRecDepth 100000 in
theorem form_any (level : Nat) (A1 A2 A3 : Option Addr) (c1 c2 c3 : Nat) (keys sums kids : List (List Int)) (w : World) (hl : level ≤ 1000) (r1 : Kd.C (Kd.slice 5 kB) w A1 keys.length keys) (r2 : Kd.C (Kd.slice 5 kB) w A2 sums.length sums) (r3 : Kd.C (Kd.slice 5 kB) w A3 kids.length kids)
  (hk : keys.length ≤ 300) (h1 : ∀ i, (rd_L keys i).length ≤ 300) (h2 : ∀ i, (rd_L sums i).length ≤ 100) (h3 : ∀ i, (rd_L kids i).length ≤ 100) :
  Calls Tryz.prog 168 #[.int .i64 level, .slice A1 keys.length c1, .slice A2 sums.length c2, .slice A3 kids.length c3] w fun e w' => ∃ v, e = .returned v ∧ Kd.R kB 5 w' w.heap.size (fun _ => True) v (formM level keys sums kids) ∧ Below w.heap.size w w' := by
 have HR1 := zAa.mk r1
 have HR2 := zAa.mk r2
 have HR3 := zAa.mk r3
 have H1 := zAa.mk h1
 have H2 := zAa.mk h2
 have H3 := zAa.mk h3
 clear r1 r2 r3 h1 h2 h3
 have kc := fun (w : World) (C : Array Value) (n c : Nat) => Lib.run_convert_bytes_const (P := Tryz.prog) w 47 5 C n c Tryz.underlying47 Tryz.underlying5
 go_enter Tryz.func168, Tryz.ntmps168
 go_wp2_with fail
 refine (bytes_any none 0 [] (some ⟨w.heap.size, 0, none⟩) 4 nodeB _ (C_nil _) (Nat.le_refl _) (by simp) (C_node (heap_alloc_new _ _)) (by decide) (by decide)).mono ?_
 rintro e w1 ⟨v, rfl, hr, hb⟩
 have hr2 : Kd.R kB 5 w1 w.heap.size (fun _ => True) v (wireM nodeB) := Kd.zCj hr (by simp)
 obtain ⟨A4, c4, e4⟩ := Kd.zAk hr2
 subst e4
 have HF1 : zAa (FB w w1 (.slice A4 (wireM nodeB).length c4) (wireM nodeB)) := ⟨⟨hr2, Below.trans (B := w.heap.size) (zAb (Below.refl _ _) _) (Below.mono hb (by simp))⟩⟩
 clear hr hb hr2 kc
 have HE0 : zAa (formTo level keys sums kids 0 = wireM nodeB ++ uvar level ++ uvar keys.length ++ wireM (rd_L kids 0)) := ⟨rfl⟩
 have HLL : zAa ((wireM nodeB ++ uvar level ++ uvar keys.length).length ≤ 100) := ⟨by
  simp only [List.length_append]
  have := uvar_len level
  have := uvar_len keys.length
  have := wireM_len nodeB
  have e : nodeB.length = 4 := rfl
  omega⟩
 go_wp2_with fail
 refine (uint_st HF1.out level (by decide) (by omega)).mono ?_
 rintro e w2 ⟨A5, c5, rfl, hF⟩
 obtain ⟨y1, hy1⟩ : ∃ y, wireM nodeB ++ uvar level = y := ⟨_, rfl⟩
 rw [hy1] at hF ⊢
 have HF2 := zAa.mk hF
 have HL1 : zAa (y1.length ≤ 100) := ⟨by have := HLL.out; rw [← hy1]; simp only [List.length_append] at this ⊢; omega⟩
 have HY1 := zAa.mk hy1
 clear hF hy1
 go_wp2_with fail
 refine (uint_st HF2.out keys.length (by have := HL1.out; omega) (by omega)).mono ?_
 rintro e w3 ⟨A6, c6, rfl, hF⟩
 obtain ⟨y2, hy2⟩ : ∃ y, y1 ++ uvar keys.length = y := ⟨_, rfl⟩
 rw [hy2] at hF ⊢
 have HF3 := zAa.mk hF
 have HL2 : zAa (y2.length ≤ 200) := ⟨by have := HL1.out; have := uvar_len keys.length; rw [← hy2, List.length_append]; omega⟩
 have HY2 := zAa.mk hy2
 clear hF hy2
 go_wp2_with fail
 refine (at_any A3 c3 kids 0 w3 (Kd.zBb HR3.out HF3.out.below) (by decide)).mono ?_
 rintro e w3' ⟨rfl, A0, c0, rfl, k1, k2⟩
 have HK := zAa.mk (And.intro k1 k2)
 have HP0 := zAa.mk (H3.out 0)
 clear k1 k2
 generalize rd_L kids 0 = p0 at HK HE0 HP0
 go_wp2_with fail
 refine (bytes_st HF3.out A0 c0 p0 (by have := HL2.out; omega) HK.out.2 HK.out.1 (by have := HP0.out; omega)).mono ?_
 rintro e w4 ⟨A7, c7, rfl, hF, _⟩
 have e0 : y2 ++ wireM p0 = formTo level keys sums kids 0 := by rw [HE0.out, HY1.out, HY2.out]
 rw [e0] at hF ⊢
 have HF4 := zAa.mk hF
 clear hF e0
 go_wp2_with fail
 clear HF1 HF2 HF3 HLL HL1 HL2 HY1 HY2 HE0 HK HP0
 go_loopw [10, 32] (fun v10 v32 w' => ∃ (i : Nat) (A : Option Addr) (c : Nat) (y : List Int), i ≤ keys.length ∧ v32 = .int .i64 i ∧ v10 = .slice A y.length c ∧ zAa (y = formTo level keys sums kids i) ∧ zAa (FB w w' (.slice A y.length c) y)) (fun _ v32 _ => keys.length - (intOf v32).toNat)
 case atStart => exact ⟨0, A7, c7, _, by omega, rfl, rfl, ⟨rfl⟩, HF4⟩
 case round =>
  obtain ⟨i, A, c, y, hi, rfl, rfl, HY, HF⟩ := hrel
  by_cases hlt : i < keys.length
  ·have h1 : (i : Int) < keys.length := by omega
   obtain ⟨ad, Ak, ck, hA, hb, k1, k2, k3⟩ := rowAt (Kd.zBb HR1.out HF.out.below) i hlt
   have HK := zAa.mk (And.intro k2 k3)
   have HP1 := zAa.mk (H1.out i)
   have HP2 := zAa.mk (H2.out i)
   have HP3 := zAa.mk (H3.out (i + 1))
   have HLN := zAa.mk (formTo_len (level := level) H1.out H2.out H3.out i)
   have HS : zAa (formTo level keys sums kids (i + 1) = y ++ (wireM (rd_L keys i) ++ wireM (rd_L sums i) ++ wireM (rd_L kids (i + 1)))) := ⟨by rw [formTo, ← HY.out]; rfl⟩
   rw [← HY.out] at HLN
   clear k2 k3
   obtain ⟨pk, hpk⟩ : ∃ p, rd_L keys i = p := ⟨_, rfl⟩
   rw [hpk] at HK HP1 HS k1
   clear hpk
   subst hA
   go_wp2_with fail
   refine (at_any A2 c2 sums i wr (Kd.zBb HR2.out HF.out.below) (by omega)).mono ?_
   rintro e wr' ⟨rfl, As, cs, rfl, k2, k3⟩
   have HS2 := zAa.mk (And.intro k2 k3)
   clear k2 k3
   obtain ⟨ps, hps⟩ : ∃ p, rd_L sums i = p := ⟨_, rfl⟩
   rw [hps] at HS2 HP2 HS ⊢
   clear hps
   go_wp2_with fail
   have h175 := at_any A3 c3 kids (i + 1) wr' (Kd.zBb HR3.out HF.out.below) (by omega)
   rw [show ((i + 1 : Nat) : Int) = (i : Int) + 1 by omega] at h175
   refine h175.mono ?_
   clear h175
   rintro e wr2 ⟨rfl, Ad, cd, rfl, k2, k3⟩
   have HS3 := zAa.mk (And.intro k2 k3)
   clear k2 k3
   obtain ⟨pd, hpd⟩ : ∃ p, rd_L kids (i + 1) = p := ⟨_, rfl⟩
   rw [hpd] at HS3 HP3 HS ⊢
   clear hpd
   go_wp2_with fail
   have HB0 : zAa (Below wr2.heap.size wr2 (wr2.alloc (Obj.cells #[Value.slice Ak pk.length ck, Value.slice As ps.length cs, Value.slice Ad pd.length cd] 47))) := ⟨zAb (Below.refl _ _) _⟩
   have HN0 : zAa ((wr2.alloc (Obj.cells #[Value.slice Ak pk.length ck, Value.slice As ps.length cs, Value.slice Ad pd.length cd] 47)).heap[wr2.heap.size]? = some (.cells #[Value.slice Ak pk.length ck, Value.slice As ps.length cs, Value.slice Ad pd.length cd] 47 (0, 0))) := ⟨heap_alloc_new _ _⟩
   have HF0 : zAa (FB w (wr2.alloc (Obj.cells #[Value.slice Ak pk.length ck, Value.slice As ps.length cs, Value.slice Ad pd.length cd] 47)) (.slice A y.length c) y) := ⟨⟨Kd.zEb HF.out.row _, zAb HF.out.below _⟩⟩
   generalize wr2.alloc (Obj.cells #[Value.slice Ak pk.length ck, Value.slice As ps.length cs, Value.slice Ad pd.length cd] 47) = w5 at HB0 HN0 HF0 ⊢
   obtain ⟨nb, hnb⟩ : ∃ nb, wr2.heap.size = nb := ⟨_, rfl⟩
   have HNB := zAa.mk hnb
   rw [hnb] at HN0 ⊢
   clear hnb
   go_loopw [10, 49] (fun v10 v49 w' => ∃ (j : Nat) (A : Option Addr) (c : Nat) (z : List Int), j ≤ 3 ∧ v49 = .int .i64 j ∧ v10 = .slice A z.length c ∧ zAa (z = y ++ ([wireM pk, wireM ps, wireM pd].take j).flatten) ∧ zAa (FB w w' (.slice A z.length c) z) ∧ zAa (Below wr2.heap.size wr2 w') ∧ zAa (w'.heap[nb]? = some (.cells #[Value.slice Ak pk.length ck, Value.slice As ps.length cs, Value.slice Ad pd.length cd] 47 (0, 0)))) (fun _ v49 _ => 3 - (intOf v49).toNat)
   case atStart => exact ⟨0, A, c, y, by omega, rfl, rfl, ⟨by simp⟩, HF0, HB0, HN0⟩
   case round =>
    obtain ⟨j, A', c', z, hj, rfl, rfl, HZ, HFz, HBz, HNz⟩ := hrel
    have HZL : zAa (z.length ≤ 350000) := ⟨by
     have := HLN.out
     have := wireM_len pk
     have := wireM_len ps
     have := wireM_len pd
     have := HP1.out
     have := HP2.out
     have := HP3.out
     rw [HZ.out]
     rcases (by omega : j = 0 ∨ j = 1 ∨ j = 2 ∨ j = 3) with rfl | rfl | rfl | rfl <;> simp <;> omega⟩
    by_cases hj3 : j < 3
    ·have g1 : (j : Int) < 3 := by omega
     obtain ⟨Ax, px, cx, hx1, hx2, hx3, hx4, hx5⟩ : ∃ (Ax : Option Addr) (px : List Int) (cx : Nat), wr.cell? ⟨nb, j, none⟩ = some (.slice Ax px.length cx) ∧ px.length ≤ cx ∧ Kd.C kB wr Ax px.length px ∧ px.length ≤ 300 ∧ [wireM pk, wireM ps, wireM pd].take (j + 1) = [wireM pk, wireM ps, wireM pd].take j ++ [wireM px] := by
      rcases (by omega : j = 0 ∨ j = 1 ∨ j = 2) with rfl | rfl | rfl
      ·exact ⟨Ak, pk, ck, (zAc HNz.out 0).trans rfl, HK.out.1, Kd.zBb HK.out.2 HBz.out, HP1.out, rfl⟩
      ·exact ⟨As, ps, cs, (zAc HNz.out 1).trans rfl, HS2.out.1, Kd.zBb HS2.out.2 HBz.out, by have := HP2.out; omega, rfl⟩
      ·exact ⟨Ad, pd, cd, (zAc HNz.out 2).trans rfl, HS3.out.1, Kd.zBb HS3.out.2 HBz.out, by have := HP3.out; omega, rfl⟩
     have HX := zAa.mk (And.intro hx2 hx3)
     have HX4 := zAa.mk (And.intro hx4 hx5)
     clear hx2 hx3 hx4 hx5
     go_wp2_with fail
     refine (bytes_st HFz.out Ax cx px (by have := HZL.out; omega) HX.out.2 HX.out.1 (by have := HX4.out.1; omega)).mono ?_
     rintro e w6 ⟨A9, c9, rfl, hF, hb⟩
     obtain ⟨z2, hz2⟩ : ∃ z2, z ++ wireM px = z2 := ⟨_, rfl⟩
     have HZ2 : zAa (z2 = y ++ ([wireM pk, wireM ps, wireM pd].take (j + 1)).flatten) := ⟨by rw [← hz2, HX4.out.2, HZ.out]; simp⟩
     rw [hz2] at hF ⊢
     have HF6 := zAa.mk hF
     have HB6 : zAa (Below wr2.heap.size wr2 w6) := ⟨HBz.out.trans (hb.mono HBz.out.size)⟩
     have HN6 := zAa.mk (zAf HNz.out hb)
     clear hF hb hz2
     go_wp2_with fail
     go_roundw
     case rel => exact ⟨j + 1, A9, c9, z2, by omega, by go_num, rfl, HZ2, HF6, HB6, HN6⟩
     case measure => simp [intOf]; omega
    ·obtain rfl : j = 3 := by omega
     have HZ3 : zAa (z = formTo level keys sums kids (i + 1)) := ⟨by rw [HS.out, HZ.out]; simp⟩
     go_wp2_with fail
     go_roundw
     case rel => exact ⟨i + 1, A', c', z, by omega, by go_num, rfl, HZ3, HFz⟩
     case measure => simp [intOf]; omega
  ·obtain rfl : i = keys.length := by omega
   go_wp2_with fail
   go_ret
   exact ⟨_, rfl, by unfold formM; rw [← HY.out]; exact HF.out.row, HF.out.below⟩
end Go.Proofs.YtpckachmleonlaaGreatDoor
end
section
set_option linter.unusedVariables false
set_option linter.unusedSimpArgs false
namespace Go.Proofs.YtpckachmleonlaaGreatDoor
open Go.RowKit Go.Proofs.YtpckachmleonlaaGreatDoorW.PrintWords
abbrev It := List Int × List Int
def lvlOf : List Int → Nat
 | [] => 0
 | c :: r => if c = 0 then 2 + lvlOf r else if c < 16 then 1 else 0
def levelB : ByteArray := ⟨#[108, 101, 118, 101, 108]⟩
def zBe (key : List Int) : Nat := lvlOf (ofM levelB [key])
def inter : List (List It) → List It → List It
 | s :: ss, i :: is => s ++ i :: inter ss is
 | s :: _, [] => s
 | [], _ => []
theorem zFc {x y : List It} {B : List (List It)} {Q : List It} : ∀ {A : List (List It)} {P : List It}, A.length = P.length → inter (A ++ (x ++ y) :: B) (P ++ Q) = inter (A ++ [x]) P ++ inter (y :: B) Q
 | [], [], _ => by
  cases Q with
  | nil => simp [inter]
  | cons q Q => simp [inter]
 | a :: A, p :: P, h => by
  have := zFc (x := x) (y := y) (B := B) (Q := Q) (A := A) (P := P) (by simpa using h)
  simp [inter, this]
 | [], _ :: _, h => by simp at h
 | _ :: _, [], h => by simp at h
theorem inter_key {x y : List It} {k : It} {B : List (List It)} {Q : List It} : ∀ {A : List (List It)} {P : List It}, A.length = P.length → inter (A ++ x :: y :: B) (P ++ k :: Q) = inter (A ++ [x]) P ++ k :: inter (y :: B) Q
 | [], [], _ => by simp [inter]
 | a :: A, p :: P, h => by
  have := inter_key (x := x) (y := y) (k := k) (B := B) (Q := Q) (A := A) (P := P) (by simpa using h)
  simp [inter, this]
 | [], _ :: _, h => by simp at h
 | _ :: _, [], h => by simp at h
structure LvOk (n : Nat) (ss : List (List It)) (is : List It) : Prop where
 len : ss.length = is.length + 1
 keys : ∀ i ∈ is, zBe i.1 = n
 below : ∀ s ∈ ss, ∀ x ∈ s, zBe x.1 < n
theorem mem_inter : ∀ {ss : List (List It)} {is : List It}, ss.length = is.length + 1 → ∀ x, x ∈ inter ss is ↔ x ∈ is ∨ ∃ s ∈ ss, x ∈ s
 | [s], [], _, x => by simp [inter]
 | s :: ss, i :: is, h, x => by
  have := mem_inter (ss := ss) (is := is) (by simpa using h) x
  simp only [inter, List.mem_append, List.mem_cons, this]
  constructor
  ·rintro (h | h | h | ⟨t, h1, h2⟩)
   ·exact .inr ⟨s, .inl rfl, h⟩
   ·exact .inl (.inl h)
   ·exact .inl (.inr h)
   ·exact .inr ⟨t, .inr h1, h2⟩
  ·rintro ((h | h) | ⟨t, rfl | h1, h2⟩)
   ·exact .inr (.inl h)
   ·exact .inr (.inr (.inl h))
   ·exact .inl h2
   ·exact .inr (.inr (.inr ⟨t, h1, h2⟩))
 | [], _, h, _ => by simp at h
 | _ :: _ :: _, [], h, _ => by simp at h
def cutAt (n : Nat) : List It → List (List It) × List It
 | [] => ([[]], [])
 | x :: l => if zBe x.1 = n then ([] :: (cutAt n l).1, x :: (cutAt n l).2) else match (cutAt n l).1 with
  | s :: ss => ((x :: s) :: ss, (cutAt n l).2)
  | [] => ([[x]], (cutAt n l).2)
theorem cut_low {n : Nat} : ∀ {s : List It}, (∀ x ∈ s, zBe x.1 < n) → cutAt n s = ([s], [])
 | [], _ => rfl
 | x :: s, h => by
  have h1 : ¬ zBe x.1 = n := by have := h x (by simp); omega
  rw [cutAt, if_neg h1, cut_low (fun y hy => h y (by simp [hy]))]
theorem cut_app {n : Nat} {i : It} (hi : zBe i.1 = n) {l : List It} : ∀ {s : List It}, (∀ x ∈ s, zBe x.1 < n) → cutAt n (s ++ i :: l) = (s :: (cutAt n l).1, i :: (cutAt n l).2)
 | [], _ => by rw [List.nil_append, cutAt, if_pos hi]
 | x :: s, h => by
  have h1 : ¬ zBe x.1 = n := by have := h x (by simp); omega
  rw [List.cons_append, cutAt, if_neg h1, cut_app hi (fun y hy => h y (by simp [hy]))]
theorem cut_inter {n : Nat} : ∀ {ss : List (List It)} {is : List It}, LvOk n ss is → cutAt n (inter ss is) = (ss, is)
 | [s], [], h => cut_low (h.below s (by simp))
 | s :: ss, i :: is, h => by
  have := cut_inter (n := n) (ss := ss) (is := is) ⟨by simpa using h.len, fun i hi => h.keys i (by simp [hi]), fun s hs => h.below s (by simp [hs])⟩
  rw [inter, cut_app (h.keys i (by simp)) (h.below s (by simp)), this]
 | [], _, h => by have := h.len; simp at this
 | _ :: _ :: _, [], h => by have := h.len; simp at this
def maxLv (l : List It) : Nat := l.foldr (fun x m => max (zBe x.1) m) 0
theorem maxLv_le {n : Nat} : ∀ {l : List It}, (∀ x ∈ l, zBe x.1 ≤ n) → maxLv l ≤ n
 | [], _ => Nat.zero_le _
 | x :: l, h => by
  have := maxLv_le (n := n) (l := l) (fun y hy => h y (by simp [hy]))
  have := h x (by simp)
  simp only [maxLv, List.foldr] at *
  omega
theorem le_maxLv : ∀ {l : List It} {x : It}, x ∈ l → zBe x.1 ≤ maxLv l
 | y :: l, x, h => by
  simp only [maxLv, List.foldr]
  rcases List.mem_cons.1 h with rfl | h
  ·omega
  ·have := le_maxLv h
   simp only [maxLv] at this
   omega
theorem maxLv_at : ∀ {l : List It}, l ≠ [] → ∃ x ∈ l, zBe x.1 = maxLv l
 | [x], _ => ⟨x, by simp, by simp [maxLv]⟩
 | x :: y :: l, _ => by
  obtain ⟨z, hz, e⟩ := maxLv_at (l := y :: l) (by simp)
  by_cases h : maxLv (y :: l) ≤ zBe x.1
  ·exact ⟨x, by simp, by simp only [maxLv, List.foldr] at h ⊢; omega⟩
  ·exact ⟨z, by simp [hz], by rw [e]; simp only [maxLv, List.foldr] at h ⊢; omega⟩
theorem cut_len {n : Nat} : ∀ (l : List It), (cutAt n l).1 ≠ [] ∧ ∀ s ∈ (cutAt n l).1, s.length + (cutAt n l).2.length ≤ l.length
 | [] => by simp [cutAt]
 | x :: l => by
  obtain ⟨h1, h2⟩ := cut_len (n := n) l
  rw [cutAt]
  split
  ·refine ⟨by simp, fun s hs => ?_⟩
   rcases List.mem_cons.1 hs with rfl | hs
   ·obtain ⟨t, ht⟩ := List.exists_mem_of_ne_nil _ h1
    have := h2 t ht
    simp only [List.length_cons, List.length_nil]
    omega
   ·have := h2 s hs
    simp only [List.length_cons]
    omega
  ·split
   ·rename_i s ss e
    refine ⟨by simp, fun t ht => ?_⟩
    rcases List.mem_cons.1 ht with rfl | ht
    ·have := h2 s (by rw [e]; simp)
     simp only [List.length_cons]
     omega
    ·have := h2 t (by rw [e]; simp [ht])
     simp only [List.length_cons]
     omega
   ·rename_i e
    exact absurd e h1
theorem cut_ne {n : Nat} {x : It} (e : zBe x.1 = n) (l : List It) (h : x ∈ l) : 0 < (cutAt n l).2.length := by
 induction l with
 | nil => exact absurd h (by simp)
 | cons y l ih =>
  rw [cutAt]
  by_cases hy : zBe y.1 = n
  ·rw [if_pos hy]
   exact Nat.succ_pos _
  ·rw [if_neg hy]
   have h2 : x ∈ l := by
    rcases List.mem_cons.1 h with h | h
    ·exact absurd (h ▸ e) hy
    ·exact h
   have h3 := ih h2
   split <;> exact h3
def emptyB : List Int := [101, 109, 112, 116, 121]
def hashF : Nat → List It → List Int
 | 0, _ => []
 | f + 1, l => if l = [] then zEh emptyB else zEh (formM (maxLv l) ((cutAt (maxLv l) l).2.map (·.1)) ((cutAt (maxLv l) l).2.map fun x => zEh x.2) ((cutAt (maxLv l) l).1.map (hashF f)))
theorem hashF_eq : ∀ (f g : Nat) (l : List It), l.length < f → l.length < g → hashF f l = hashF g l
 | 0, _, _, h, _ => absurd h (Nat.not_lt_zero _)
 | _ + 1, 0, _, _, h => absurd h (Nat.not_lt_zero _)
 | f + 1, g + 1, l, h1, h2 => by
  rw [hashF, hashF]
  by_cases e : l = []
  ·rw [if_pos e, if_pos e]
  ·rw [if_neg e, if_neg e]
   have hm : (cutAt (maxLv l) l).1.map (hashF f) = (cutAt (maxLv l) l).1.map (hashF g) := by
    refine List.map_congr_left fun s hs => ?_
    obtain ⟨x, hx, e2⟩ := maxLv_at e
    have h3 := cut_ne e2 l hx
    have h4 := (cut_len (n := maxLv l) l).2 s hs
    exact hashF_eq f g s (by omega) (by omega)
   rw [hm]
def hashT (l : List It) : List Int := hashF (l.length + 1) l
theorem hashT_nil : hashT [] = zEh emptyB := by rw [hashT, hashF, if_pos rfl]
theorem max_inter {n : Nat} {ss : List (List It)} {is : List It} (h : LvOk n ss is) (hi : is ≠ []) : maxLv (inter ss is) = n := by
 refine Nat.le_antisymm (maxLv_le fun x hx => ?_) ?_
 ·rcases (mem_inter h.len x).1 hx with h1 | ⟨s, h1, h2⟩
  ·exact Nat.le_of_eq (h.keys x h1)
  ·exact Nat.le_of_lt (h.below s h1 x h2)
 ·obtain ⟨i, hi⟩ := List.exists_mem_of_ne_nil _ hi
  rw [← h.keys i hi]
  exact le_maxLv ((mem_inter h.len i).2 (.inl hi))
theorem inter_len {ss : List (List It)} {is : List It} (h : ss.length = is.length + 1) : ∀ s ∈ ss, s.length + is.length ≤ (inter ss is).length := by
 induction is generalizing ss with
 | nil =>
  match ss, h with
  | [s], _ => simp [inter]
 | cons i is ih =>
  match ss, h with
  | s :: ss, h =>
   have h1 : ss.length = is.length + 1 := by simpa using h
   intro t ht
   simp only [inter, List.length_append, List.length_cons]
   rcases List.mem_cons.1 ht with rfl | ht
   ·have h2 : ss ≠ [] := fun e => by rw [e] at h1; simp at h1
    obtain ⟨u, hu⟩ := List.exists_mem_of_ne_nil _ h2
    have := ih h1 u hu
    omega
   ·have := ih h1 t ht
    omega
theorem hashT_node {n : Nat} {ss : List (List It)} {is : List It} (h : LvOk n ss is) (hi : is ≠ []) : hashT (inter ss is) = zEh (formM n (is.map (·.1)) (is.map fun x => zEh x.2) (ss.map hashT)) := by
 have h0 : 0 < is.length := List.length_pos_iff.2 hi
 have hne : inter ss is ≠ [] := by
  obtain ⟨i, hi⟩ := List.exists_mem_of_ne_nil _ hi
  intro e
  have := (mem_inter h.len i).2 (.inl hi)
  rw [e] at this
  simp at this
 rw [hashT, hashF, if_neg hne, max_inter h hi, cut_inter h]
 have hm : ss.map (hashF (inter ss is).length) = ss.map hashT := by
  refine List.map_congr_left fun s hs => ?_
  have := inter_len h.len s hs
  exact hashF_eq _ _ s (by omega) (by omega)
 rw [hm]
end Go.Proofs.YtpckachmleonlaaGreatDoor
end
section
set_option linter.unusedVariables false
set_option linter.unusedSimpArgs false
namespace Go.Proofs.YtpckachmleonlaaGreatDoor
open Go.RowKit Go.Proofs.YtpckachmleonlaaGreatDoorW.PrintWords
def u8s (l : List Int) : List UInt8 := l.map fun x => x.toNat.toUInt8
def IsB (l : List Int) : Prop := ∀ x ∈ l, 0 ≤ x ∧ x < 256
theorem u8s_inj {a b : List Int} (ha : IsB a) (hb : IsB b) (h : u8s a = u8s b) : a = b := by
  induction a generalizing b with
  | nil =>
    cases b with
    | nil => rfl
    | cons y b => simp [u8s] at h
  | cons x a ih =>
    cases b with
    | nil => simp [u8s] at h
    | cons y b =>
      simp only [u8s, List.map_cons, List.cons.injEq] at h
      have h1 := ha x (by simp)
      have h2 := hb y (by simp)
      have h3 : x = y := by
        have := congrArg UInt8.toNat h.1
        simp only [Nat.toUInt8_eq, UInt8.toNat_ofNat'] at this
        omega
      rw [h3, ih (fun z hz => ha z (by simp [hz])) (fun z hz => hb z (by simp [hz])) h.2]
theorem cb_refl : ∀ a : List UInt8, Lib.compareBytes a a = 0
  | [] => rfl
  | x :: a => by simp [Lib.compareBytes, cb_refl a]
theorem cb_eq : ∀ {a b : List UInt8}, Lib.compareBytes a b = 0 → a = b
  | [], [], _ => rfl
  | [], _ :: _, h => by simp [Lib.compareBytes] at h
  | _ :: _, [], h => by simp [Lib.compareBytes] at h
  | x :: a, y :: b, h => by
    unfold Lib.compareBytes at h
    by_cases h1 : x < y
    · simp [h1] at h
    · by_cases h2 : y < x
      · simp [h1, h2] at h
      · simp only [h1, h2, if_false] at h
        have : x = y := UInt8.le_antisymm (UInt8.not_lt.1 h2) (UInt8.not_lt.1 h1)
        rw [this, cb_eq h]
theorem cb_neg : ∀ a b : List UInt8, Lib.compareBytes b a = - Lib.compareBytes a b
  | [], [] => rfl
  | [], _ :: _ => by simp [Lib.compareBytes]
  | _ :: _, [] => by simp [Lib.compareBytes]
  | x :: a, y :: b => by
    unfold Lib.compareBytes
    by_cases h1 : x < y
    · have h2 : ¬ y < x := fun h => UInt8.lt_irrefl x (UInt8.lt_trans h1 h)
      simp [h1, h2]
    · by_cases h2 : y < x
      · simp [h1, h2]
      · simp only [h1, h2, if_false]
        exact cb_neg a b
theorem cb_trans : ∀ {a b c : List UInt8}, Lib.compareBytes a b < 0 → Lib.compareBytes b c < 0 → Lib.compareBytes a c < 0
  | [], [], _, h, _ => by simp [Lib.compareBytes] at h
  | [], _ :: _, [], _, h => by simp [Lib.compareBytes] at h
  | [], _ :: _, _ :: _, _, _ => by simp [Lib.compareBytes]
  | _ :: _, [], _, h, _ => by simp [Lib.compareBytes] at h
  | _ :: _, _ :: _, [], _, h => by simp [Lib.compareBytes] at h
  | x :: a, y :: b, z :: c, h1, h2 => by
    unfold Lib.compareBytes at h1 h2 ⊢
    by_cases e1 : x < y
    · by_cases e2 : y < z
      · simp [UInt8.lt_trans e1 e2]
      · by_cases e3 : z < y
        · simp [e2, e3] at h2
        · have : y = z := UInt8.le_antisymm (UInt8.not_lt.1 e3) (UInt8.not_lt.1 e2)
          subst this
          simp [e1]
    · by_cases e3 : y < x
      · simp [e1, e3] at h1
      · have : x = y := UInt8.le_antisymm (UInt8.not_lt.1 e3) (UInt8.not_lt.1 e1)
        subst this
        simp only [e1, if_false] at h1
        by_cases e2 : x < z
        · simp [e2]
        · by_cases e4 : z < x
          · simp [e2, e4] at h2
          · simp only [e2, e4, if_false] at h2 ⊢
            exact cb_trans h1 h2
def cmpI (a b : List Int) : Int := Lib.compareBytes (u8s a) (u8s b)
def ltI (a b : List Int) : Prop := cmpI a b < 0
instance (a b : List Int) : Decidable (ltI a b) := inferInstanceAs (Decidable (_ < _))
theorem ltI_trans {a b c : List Int} (h : ltI a b) (k : ltI b c) : ltI a c := cb_trans h k
theorem ltI_irrefl (a : List Int) : ¬ ltI a a := by unfold ltI cmpI; rw [cb_refl]; decide
theorem ltI_of_gt {a b : List Int} (h : 0 < cmpI a b) : ltI b a := by unfold ltI cmpI; rw [cb_neg]; unfold cmpI at h; omega
theorem cmpI_eq {a b : List Int} (ha : IsB a) (hb : IsB b) (h : cmpI a b = 0) : a = b := u8s_inj ha hb (cb_eq h)
theorem cmpI_self (a : List Int) : cmpI a a = 0 := cb_refl _
def Sorted (l : List It) : Prop := l.Pairwise fun x y => ltI x.1 y.1
def zFd (l : List It) (k : List Int) : Prop := ∀ x ∈ l, ltI x.1 k
def Above (k : List Int) (l : List It) : Prop := ∀ x ∈ l, ltI k x.1
theorem Sorted.app {a b : List It} (h : Sorted (a ++ b)) : Sorted a ∧ Sorted b ∧ ∀ x ∈ a, ∀ y ∈ b, ltI x.1 y.1 := List.pairwise_append.1 h
theorem inter_below {x : List It} {k : List Int} : ∀ {A : List (List It)} {P : List It}, A.length = P.length → Sorted (inter (A ++ [x]) P) → zFd P k → zFd x k → zFd (inter (A ++ [x]) P) k
  | [], [], _, _, _, hx => by simpa [inter] using hx
  | a :: A, p :: P, h, hs, hp, hx => by
    have e : inter (a :: A ++ [x]) (p :: P) = a ++ p :: inter (A ++ [x]) P := rfl
    rw [e] at hs ⊢
    obtain ⟨_, h2, h3⟩ := hs.app
    have hpk : ltI p.1 k := hp p (by simp)
    have ih := inter_below (x := x) (k := k) (A := A) (P := P) (by simpa using h) (List.pairwise_cons.1 h2).2 (fun q hq => hp q (by simp [hq])) hx
    intro y hy
    rcases List.mem_append.1 hy with hy | hy
    · exact ltI_trans (h3 y hy p (by simp)) hpk
    · rcases List.mem_cons.1 hy with rfl | hy
      · exact hpk
      · exact ih y hy
  | [], _ :: _, h, _, _, _ => by simp at h
  | _ :: _, [], h, _, _, _ => by simp at h
theorem inter_above {k : List Int} : ∀ {B : List (List It)} {y : List It} {Q : List It}, B.length = Q.length → Sorted (inter (y :: B) Q) → Above k Q → Above k y → Above k (inter (y :: B) Q)
  | [], y, [], _, _, _, hy => by simpa [inter] using hy
  | b :: B, y, q :: Q, h, hs, hq, hy => by
    have e : inter (y :: b :: B) (q :: Q) = y ++ q :: inter (b :: B) Q := rfl
    rw [e] at hs ⊢
    obtain ⟨_, h2, _⟩ := hs.app
    have h4 := (List.pairwise_cons.1 h2).1
    have hqk : ltI k q.1 := hq q (by simp)
    intro z hz
    rcases List.mem_append.1 hz with hz | hz
    · exact hy z hz
    · rcases List.mem_cons.1 hz with rfl | hz
      · exact hqk
      · exact ltI_trans hqk (h4 z hz)
  | [], _, _ :: _, h, _, _, _ => by simp at h
  | _ :: _, _, [], h, _, _, _ => by simp at h
theorem inter_keys {l : List It} : ∀ {ss : List (List It)} {is : List It}, ss.length = is.length + 1 → Sorted (inter ss is) → Sorted is
  | [s], [], _, _ => List.Pairwise.nil
  | s :: ss, i :: is, h, hs => by
    have h1 : ss.length = is.length + 1 := by simpa using h
    obtain ⟨_, h2, _⟩ := Sorted.app (a := s) (b := i :: inter ss is) hs
    obtain ⟨h3, h4⟩ := List.pairwise_cons.1 h2
    refine List.pairwise_cons.2 ⟨fun x hx => h3 x ((mem_inter h1 x).2 (.inl hx)), inter_keys (l := l) h1 h4⟩
  | [], _, h, _ => by simp at h
  | _ :: _ :: _, [], h, _ => by simp at h
end Go.Proofs.YtpckachmleonlaaGreatDoor
end
