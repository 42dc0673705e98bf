/- Words and walks for Split and Tablet: texts of these sessions, and of the kit's print, cut down to what is used (E5 Card12). -/
import Derived.Test.YtpckachmleonlaaGreatDoorCv41
import Derived.Test.YtpckachmleonlaaGreatDoorCv42
section
set_option linter.unusedVariables false
set_option linter.unusedSimpArgs false
namespace Go.Proofs.YtpckachmleonlaaGreatDoor
open Go.RowKit Go.Proofs.YtpckachmleonlaaGreatDoorW.PrintWords Go.Proofs.YtpckachmleonlaaGreatDoorW.PrintMore
def RunN (cs : List CellM) (i nn : Nat) : Prop := (i = 0 ∧ nn = 0) ∨ ∃ j x, i = j + 1 ∧ cs[j]? = some x ∧ nn ≤ (colC x.f0 (cs.take i)).length
theorem take_snoc2 {cs : List CellM} {i : Nat} {x : CellM} (h : cs[i]? = some x) : cs.take (i + 1) = cs.take i ++ [x] := by rw [List.take_add_one, h]; rfl
theorem RunN.one {cs : List CellM} {i : Nat} {x : CellM} (h : cs[i]? = some x) : RunN cs (i + 1) 1 := .inr ⟨i, x, rfl, h, by rw [take_snoc2 h, colC_snoc, colB_self]; simp⟩
theorem RunN.more {cs : List CellM} {i nn : Nat} {x y : CellM} (hr : RunN cs (i + 1) nn) (hy : cs[i]? = some y) (hx : cs[i + 1]? = some x) (hc : colB y.f0 x.f0 = true) : RunN cs (i + 1 + 1) (nn + 1) := by
 rcases hr with ⟨h, _⟩ | ⟨j, z, e, hz, hn⟩
 ·omega
 ·obtain rfl : j = i := by omega
  rw [hy] at hz
  cases hz
  refine .inr ⟨j + 1, x, rfl, hx, ?_⟩
  rw [take_snoc2 hx, colC_snoc, colB_self, if_pos rfl, List.length_append, ← colC_same hc]
  simp only [List.length_cons, List.length_nil]
  omega
theorem RunN.le {cs : List CellM} {i nn : Nat} (h : RunN cs i nn) (hm : manyB cs = false) : nn ≤ 4 := by
 rcases h with ⟨_, rfl⟩ | ⟨j, x, _, _, hn⟩
 ·omega
 ·have h1 := col_le hm x.f0
  have h2 : (colC x.f0 (cs.take i)).length ≤ (colC x.f0 cs).length := ((List.take_sublist i cs).filter _).length_le
  omega
set_option maxHeartbeats 16000000 in
set_option maxRecDepth 100000 in
theorem tabletKeeps_law (a b : ByteArray) (m : Nat) (A : Option Addr) (c : Nat) (l : List OpM) (w : World) (hC : Kd.C (kO m) w A l.length l) (hc : l.length ≤ c) (hf : ∀ o ∈ l, ∀ m, FitO m o) :
  Calls Tryz.prog 12 #[.string a, .string b, .slice A l.length c] w fun e w' => e = .returned (.bool true) ∧ Below w.heap.size w w' := by
 have HOPS : zAa (∀ X, Below w.heap.size w X → Kd.C (kO m) X A l.length l) := ⟨fun X hX => Kd.zBb hC hX⟩
 have HTM : zAa (∀ o ∈ l, TimesO o) := ⟨fun o ho => fitO_times (hf o ho 2)⟩
 have HLI : zAa (∀ X, Below w.heap.size w X → Calls Tryz.prog 31 #[.slice A l.length c, .int .i64 (40 : Nat)] X fun e w' => e = .returned (.bool (lightS 40 l)) ∧ Below X.heap.size X w') := ⟨fun X hX => lights_any 40 (by omega) m A c l X (Kd.zBb hC hX) (fun o ho => hf o ho m)⟩
 have HAL : zAa (∀ X, Below w.heap.size w X → Calls Tryz.prog 32 #[] X fun e w' => e = .returned (.bool true) ∧ Below w.heap.size w w') := ⟨fun X hX => (alive10 X).mono fun e w' h => ⟨h.1, hX.trans (h.2.mono hX.size)⟩⟩
 have HL40 : zAa (lightS 40 l = true → l.length ≤ 40) := ⟨fun h => by
  unfold lightS at h
  rw [Bool.and_eq_true] at h
  exact of_decide_eq_true h.1⟩
 obtain ⟨n, hn⟩ : ∃ n, l.length = n := ⟨_, rfl⟩
 have HN := zAa.mk hn
 rw [hn] at HOPS HLI HL40 ⊢
 obtain ⟨li, hli⟩ : ∃ x, lightS 40 l = x := ⟨_, rfl⟩
 rw [hli] at HLI HL40
 clear hC hc hf hn hli
 have hbad : ∀ (pt : Option Addr) (i : Int) (W : World), True := fun _ _ _ => trivial
 clear hbad
 obtain ⟨rt, hrt⟩ : ∃ x, rightT a b = x := ⟨_, rfl⟩
 cases rt
 case false =>
  have HNEW := zAa.mk (new_bad a b w hrt)
  clear hrt
  go_enter Tryz.func12, Tryz.ntmps12
  go_wp2_with fail
  refine HNEW.out.mono ?_
  rintro e w1 ⟨rfl, e1⟩
  have e2 := e1.symm
  subst e2
  clear e1 HNEW
  go_wp2_with fail
  refine (HLI.out _ (Below.refl _ _)).mono ?_
  rintro e w2 ⟨rfl, hb⟩
  have HB2 := zAa.mk hb
  clear hb HLI
  have hall : decide ((100 : Int) < (a.size : Int)) = true ∨ decide ((100 : Int) < (a.size : Int)) = false := by cases decide ((100 : Int) < (a.size : Int)) <;> simp
  have hall2 : decide ((100 : Int) < (b.size : Int)) = true ∨ decide ((100 : Int) < (b.size : Int)) = false := by cases decide ((100 : Int) < (b.size : Int)) <;> simp
  cases li
  ·go_wp2_with fail
   refine (HAL.out _ HB2.out).mono ?_
   rintro e w3 ⟨rfl, hb⟩
   have HB3 := zAa.mk hb
   clear hb
   go_wp2_with fail
   go_ret
   exact ⟨rfl, HB3.out⟩
  ·rcases hall with h1 | h1
   ·go_wp2_with fail
    refine (HAL.out _ HB2.out).mono ?_
    rintro e w3 ⟨rfl, hb⟩
    have HB3 := zAa.mk hb
    clear hb
    go_wp2_with fail
    go_ret
    exact ⟨rfl, HB3.out⟩
   ·rcases hall2 with h2 | h2
    all_goals (
     go_wp2_with fail
     refine (HAL.out _ HB2.out).mono ?_
     rintro e w3 ⟨rfl, hb⟩
     have HB3 := zAa.mk hb
     clear hb
     go_wp2_with fail
     go_ret
     exact ⟨rfl, HB3.out⟩)
 have HRT := zAa.mk hrt
 have HNEW := zAa.mk (new_ok a b w hrt)
 have h32 := hrt
 unfold rightT at h32
 simp only [Bool.and_eq_true, decide_eq_true_eq] at h32
 have h1 : decide ((100 : Int) < (a.size : Int)) = false := decide_eq_false (by omega)
 have h2 : decide ((100 : Int) < (b.size : Int)) = false := decide_eq_false (by omega)
 have h1' : ¬ (100 : Int) < (a.size : Int) := by omega
 have h2' : ¬ (100 : Int) < (b.size : Int) := by omega
 have HTN : zAa (TabAt (fun k => w.heap.size < k) (w.alloc (.cells #[.string a, .string b, .pointer none] 103)) w.heap.size a b []) := ⟨tab_new (heap_alloc_new _ _) (Nat.lt_irrefl _)⟩
 have HTL0 : zAa (TabL a b []) := ⟨⟨OkL.nil, HRT.out, fun x hx => (by simp at hx), rfl, Nat.zero_le _⟩⟩
 have HAB : zAa (a.size ≤ 100 ∧ b.size ≤ 100) := ⟨by omega, by omega⟩
 clear hrt h32
 go_enter Tryz.func12, Tryz.ntmps12
 go_wp2_with fail
 refine HNEW.out.mono ?_
 rintro e w1 ⟨rfl, e1⟩
 rw [← e1] at HTN
 have HB1 : zAa (Below w.heap.size w w1) := ⟨by rw [e1]; exact zAb (Below.refl _ _) _⟩
 clear e1 HNEW
 go_wp2_with fail
 refine (HLI.out _ HB1.out).mono ?_
 rintro e w2 ⟨rfl, hb⟩
 have HT2 := zAa.mk (HTN.out.keep hb)
 have HB2 : zAa (Below w.heap.size w w2) := ⟨HB1.out.trans (hb.mono HB1.out.size)⟩
 clear hb HLI HTN HB1
 cases li
 case false =>
  go_wp2_with fail
  refine (HAL.out _ HB2.out).mono ?_
  rintro e w3 ⟨rfl, hb⟩
  have HB3 := zAa.mk hb
  clear hb
  go_wp2_with fail
  go_ret
  exact ⟨rfl, HB3.out⟩
 have hn40 := HL40.out rfl
 go_upto_region 5 with fail
 go_loopg [9] n (fun gg s9 wr => ∃ k : Nat, k ≤ n ∧ n - k ≤ gg ∧ s9 = .int .i64 k ∧ zAa (TabAt (fun j => w.heap.size < j) wr w.heap.size a b (runM a b (l.take k) [])) ∧ zAa (But w.heap.size w2 wr))
 case atStart => exact ⟨0, Nat.zero_le _, by omega, rfl, ⟨by rw [List.take_zero]; exact HT2.out⟩, ⟨But.refl _ _⟩⟩
 case round =>
  obtain ⟨k, hk, hg, rfl, HT, HB⟩ := hrel
  have HBW : zAa (Below w.heap.size w wr) := ⟨HB2.out.trans HB.out.below⟩
  by_cases hlt : k < n
  ·have hltz : (k : Int) < (n : Int) := by omega
   obtain ⟨ad, s, m', B1, d1', B2, d2', B3, d3', rfl, hsk, p0, p1, p2, p3, p4, p5, p6, p7, p8, p9, hats⟩ := op_at (HOPS.out _ HBW.out) k hlt
   have happ := apply_any _ wr w.heap.size a b _ HT.out (fun j hj => by have := HT.out.lt; omega) (runM_tab _ _ HTL0.out fun o ho => HTM.out o (List.mem_of_mem_take ho)) s (HTM.out s (List.mem_of_getElem? hsk)) m' B1 d1' B2 d2' B3 d3' hats
   unfold ResPost opV at happ
   rw [← runM_take hsk] at happ
   have HAPP := zAa.mk happ
   clear hsk hats happ
   go_wp2_with fail
   refine HAPP.out.mono ?_
   rintro e w3 ⟨A', n', c', rfl, _, ht, hb⟩
   have HT3 := zAa.mk ht
   have HB3 : zAa (But w.heap.size w2 w3) := ⟨HB.out.trans hb⟩
   clear ht hb HAPP p0 p1 p2 p3 p4 p5 p6 p7 p8 p9
   go_wp2_with fail
   go_roundg (n - (k + 1))
   case measure => omega
   case rel => exact ⟨k + 1, by omega, by omega, by go_num, HT3, HB3⟩
  ·have hltz : ¬ (k : Int) < (n : Int) := by omega
   obtain rfl : k = n := by omega
   have HTL := zAa.mk (runM_tab l [] HTL0.out HTM.out)
   have hte := HT.out
   rw [List.take_of_length_le (by rw [HN.out]; exact Nat.le_refl _)] at hte
   obtain ⟨cs, hcs⟩ : ∃ x, runM a b l [] = x := ⟨_, rfl⟩
   rw [hcs] at HTL hte
   have HTE := zAa.mk hte
   clear hte hcs HT HOPS
   go_wp2_with fail
   refine (all_any _ wr w.heap.size a b cs HTE.out HTL.out.ok (by have := HTL.out.len; omega)).mono ?_
   rintro e w4 ⟨v, rfl, hr, hb⟩
   obtain ⟨A4, c4, rfl, hc4, hC4⟩ := Kd.zGa hr
   have HC4 := zAa.mk (And.intro hC4 hc4)
   have HB4 : zAa (Below w.heap.size w w4) := ⟨HBW.out.trans (hb.mono HBW.out.size)⟩
   have HT4 := zAa.mk (HTE.out.keep hb)
   obtain ⟨nc, hnc⟩ : ∃ x, cs.length = x := ⟨_, rfl⟩
   have HNC := zAa.mk hnc
   rw [hnc] at HC4 ⊢
   have hnc32 : nc ≤ 32 := by rw [← hnc]; exact HTL.out.len
   clear hr hb hC4 hc4 hnc HB HBW HTE
   go_upto_region 11 with fail
   go_loopg [11, 12] nc (fun gg s11 s12 wr => ∃ (i nn : Nat), i ≤ nc ∧ nc - i ≤ gg ∧ s12 = .int .i64 i ∧ s11 = .int .i64 nn ∧ nn ≤ 4 ∧ zAa (RunN cs i nn) ∧ zAa (Below w4.heap.size w4 wr))
   case atStart => exact ⟨0, 0, Nat.zero_le _, by omega, rfl, rfl, by omega, ⟨.inl ⟨rfl, rfl⟩⟩, ⟨Below.refl _ _⟩⟩
   case round =>
    obtain ⟨i, nn, hi, hg, rfl, rfl, hnn, HR, HB⟩ := hrel
    have HBW : zAa (Below w.heap.size w wr) := ⟨HB4.out.trans (HB.out.mono HB4.out.size)⟩
    by_cases hlt : i < nc
    ·have hltz : (i : Int) < (nc : Int) := by omega
     obtain ⟨zs, hz1, hH, hz2⟩ := C_open (Kd.zBb HC4.out.1 HB.out)
     obtain ⟨ad, y, rfl, hy, x0, x1, x2, x3, x4, x5⟩ := at_kH hH i hlt
     rw [List.getElem?_map, Option.map_eq_some_iff] at hy
     obtain ⟨z, hz, rfl⟩ := hy
     have hok := hz2 z (List.mem_of_getElem? hz)
     have hck : cs[i]? = some z.2 := by rw [← hz1, List.getElem?_map, hz]; rfl
     have HCK := zAa.mk hck
     have hmem := List.mem_of_getElem? hck
     have hins := HTL.out.ins z.2 hmem
     have hokc := HTL.out.ok.ok z.2 hmem
     rw [insT_eq, Bool.and_eq_true, ← less_ltS, ← less_ltS] at hins
     have hv : (z.2.f2 = true ∧ z.1.h.n = 0) ∨ z.2.f2 = false := by
      cases h : z.2.f2
      ·exact .inr rfl
      ·refine .inl ⟨rfl, ?_⟩
       rw [hok.b.n, hokc.g h]
       rfl
     rw [hok.k] at x0 x1 x2 x3
     rw [hok.g] at x5
     have hk0 : decide ((0 : Int) < (i : Int)) = decide (0 < i) := by
      by_cases h : 0 < i
      ·rw [decide_eq_true h, decide_eq_true (by omega)]
      ·rw [decide_eq_false h, decide_eq_false (by omega)]
     have hprev : i = 0 ∨ ∃ (y : CellM) (c : Int), 0 < i ∧ cs[i - 1]? = some y ∧ cmpK y.f0 z.2.f0 = c ∧ c < 0 ∧ Sh y.f0 ∧ wr.cell? (ad.add ((i - 1) * 6)) = some (.string y.f0.f0) ∧ wr.cell? ⟨(ad.add ((i - 1) * 6)).block, (ad.add ((i - 1) * 6)).off + 1, none⟩ = some (.string y.f0.f1) ∧ wr.cell? ⟨(ad.add ((i - 1) * 6)).block, (ad.add ((i - 1) * 6)).off + 2, none⟩ = some (.string y.f0.f2) ∧ wr.cell? ⟨(ad.add ((i - 1) * 6)).block, (ad.add ((i - 1) * 6)).off + 3, none⟩ = some (.int .u64 y.f0.f3) := by
      rcases Nat.eq_zero_or_pos i with h | h
      ·exact .inl h
      ·obtain ⟨ad2, y2, e2, hy2, y0, y1, y2', y3, _, _⟩ := at_kH hH (i - 1) (by omega)
       cases e2
       rw [List.getElem?_map, Option.map_eq_some_iff] at hy2
       obtain ⟨u, hu, rfl⟩ := hy2
       have hou := hz2 u (List.mem_of_getElem? hu)
       have hcu : cs[i - 1]? = some u.2 := by rw [← hz1, List.getElem?_map, hu]; rfl
       rw [hou.k] at y0 y1 y2' y3
       refine .inr ⟨u.2, _, h, hcu, rfl, ?_, okC_sh (HTL.out.ok.ok u.2 (List.mem_of_getElem? hcu)), y0, y1, y2', y3⟩
       obtain ⟨h1, e1⟩ := List.getElem?_eq_some_iff.1 hcu
       obtain ⟨h2, e2⟩ := List.getElem?_eq_some_iff.1 hck
       have h3 := List.pairwise_iff_getElem.1 HTL.out.ok.so (i - 1) i h1 h2 (by omega)
       rw [e1, e2] at h3
       exact h3
     have HSX := zAa.mk (okC_sh hokc)
     generalize z.1.h = vh at x4 hv
     generalize z.2 = x at x0 x1 x2 x3 x5 hck HCK hins hv hprev HSX
     clear hz1 hH hz2 hz hok hck hmem hokc
     obtain ⟨⟨xr, xf, xq, xt⟩, xv, xg⟩ := x
     simp only at x0 x1 x2 x3 x5 hins hv
     obtain ⟨be, hbe⟩ : ∃ x, b.toList.isEmpty = x := ⟨_, rfl⟩
     have ge : (!b.toList.isEmpty) = !be := by rw [hbe]
     have hle : Op.bytesLess xr.toList a.toList = false := by simpa using hins.1
     have hto : be = false → Op.bytesLess xr.toList b.toList = true := fun h => by
      have h1 := hins.2
      rw [Bool.or_eq_true, decide_eq_true_eq] at h1
      rcases h1 with h1 | h1
      ·have := Cp.size_pos (hbe.trans h)
       omega
      ·exact h1
     clear hins
     rcases hprev with h0 | ⟨y, cc, hp0, hy, hcy, hcc, hsy, y0, y1, y2, y3⟩
     ·have hnn0 : nn = 0 := by
       rcases HR.out with ⟨_, h⟩ | ⟨j, x, h, _⟩
       ·exact h
       ·omega
      subst hnn0
      have hk1 : decide ((0 : Int) < (i : Int)) = false := decide_eq_false (by omega)
      have hk2 : decide (0 < i) = false := decide_eq_false (by omega)
      have hk3 : ¬ 0 < i := by omega
      clear hk0 h0 HR
      have HCALL : zAa (∀ W : Bl wr, Calls Tryz.prog 32 #[] W.1 fun e w'' => e = .returned (.bool true) ∧ ∃ j : Bl wr, w'' = j.1) := ⟨fun W => bl_call (i := W) (alive10 W.1)⟩
      have HN1 := zAa.mk (RunN.one HCK.out)
      have htob : be = true ∨ (be = false ∧ Op.bytesLess xr.toList b.toList = true) := by
       cases be
       ·exact .inr ⟨rfl, hto rfl⟩
       ·exact .inl rfl
      clear hto
      rcases htob with h | ⟨h, hto⟩ <;> rcases hv with ⟨h2, hv⟩ | h2 <;> subst h <;> subst h2
      all_goals (
       go_upto_region 13 with fail
       have X0 := fun i => zDd x0 i
       have X4 := fun i => zDd x4 i
       have X5 := fun i => zDd x5 i
       refine wp_region_bl (by kernel_rfl) (by kernel_rfl) ?_
       repeat (go_big_quiet_step (exact HCALL.out _))
       refine wpQuiet_nil ?_
       intro w5 hw5
       obtain ⟨i5, e5⟩ := hw5
       have hb5 := i5.2
       rw [← e5] at hb5
       have HB5 : zAa (Below w4.heap.size w4 w5) := ⟨HB.out.trans (hb5.mono HB.out.size)⟩
       clear e5 i5 hb5 X0 X4 X5 x0 x1 x2 x3 x4 x5 HCALL
       have HCALL : zAa (∀ W : Bl w5, Calls Tryz.prog 32 #[] W.1 fun e w'' => e = .returned (.bool true) ∧ ∃ j : Bl w5, w'' = j.1) := ⟨fun W => bl_call (i := W) (alive10 W.1)⟩
       go_upto_region 16 with fail
       refine wp_region_bl (by kernel_rfl) (by kernel_rfl) ?_
       repeat (go_big_quiet_step (exact HCALL.out _))
       refine wpQuiet_nil ?_
       intro w6 hw6
       obtain ⟨i6, e6⟩ := hw6
       have hb6 := i6.2
       rw [← e6] at hb6
       have HB6 : zAa (Below w4.heap.size w4 w6) := ⟨HB5.out.trans (hb6.mono HB5.out.size)⟩
       clear e6 i6 hb6 HCALL hk1 hk2 hk3
       go_wp2_with fail
       go_roundg (nc - (i + 1))
       case measure => omega
       case rel => exact ⟨i + 1, 1, by omega, by omega, by go_num, by go_num, by omega, HN1, HB6⟩)
     ·obtain ⟨⟨yr, yf, yq, yt⟩, yv, yg⟩ := y
      simp only at y0 y1 y2 y3
      obtain ⟨cb, hcb⟩ : ∃ z, colB (⟨yr, yf, yq, yt⟩ : KeyM) (⟨xr, xf, xq, xt⟩ : KeyM) = z := ⟨_, rfl⟩
      have HMORE : zAa (cb = true → RunN cs (i + 1) (nn + 1) ∧ nn + 1 ≤ 4) := ⟨fun h => by
       obtain ⟨j, rfl⟩ : ∃ j, i = j + 1 := ⟨i - 1, by omega⟩
       have h1 := RunN.more HR.out hy HCK.out (hcb.trans h)
       exact ⟨h1, h1.le HTL.out.col⟩⟩
      have HONE := zAa.mk (RunN.one HCK.out)
      have HCALL : zAa (∀ W : Bl wr, Calls Tryz.prog 43 #[.agg #[.string yr, .string yf, .string yq, .int .u64 yt], .agg #[.string xr, .string xf, .string xq, .int .u64 xt]] W.1 fun e w'' => e = .returned (.int .i64 cc) ∧ ∃ j : Bl wr, w'' = j.1) := ⟨fun W => bl_call (i := W) (by
       have h9 := rcmp_any hsy HSX.out W.1
       rw [hcy] at h9
       exact h9)⟩
      have HCOL : zAa (∀ (w5 : World) (W : Bl w5), Calls Tryz.prog 44 #[.agg #[.string yr, .string yf, .string yq, .int .u64 yt], .agg #[.string xr, .string xf, .string xq, .int .u64 xt]] W.1 fun e w'' => e = .returned (.bool cb) ∧ ∃ j : Bl w5, w'' = j.1) := ⟨fun w5 W => bl_call (i := W) (by
       have h9 := rcol_any (⟨yr, yf, yq, yt⟩ : KeyM) (⟨xr, xf, xq, xt⟩ : KeyM) W.1
       rw [hcb] at h9
       exact h9)⟩
      have hk1 : decide ((0 : Int) < (i : Int)) = true := decide_eq_true (by omega)
      have hk2 : decide (0 < i) = true := decide_eq_true (by omega)
      have z1 : ((i : Int) - 1).toNat = i - 1 := by omega
      have z2 : (0 : Int) ≤ (i : Int) - 1 := by omega
      have z3 : (i : Int) - 1 < nc := by omega
      have z4 : ¬ (0 : Int) ≤ cc := by omega
      have z5 : decide ((0 : Int) ≤ cc) = false := decide_eq_false z4
      have htob : be = true ∨ (be = false ∧ Op.bytesLess xr.toList b.toList = true) := by
       cases be
       ·exact .inr ⟨rfl, hto rfl⟩
       ·exact .inl rfl
      have hRL := HR.out
      clear hto hcy hcb hy hsy hk0 hcc HR hRL
      rcases htob with h | ⟨h, hto⟩ <;> rcases hv with ⟨h2, hv⟩ | h2 <;> subst h <;> subst h2
      all_goals (
       go_upto_region 13 with fail
       have X0 := fun i => zDd x0 i
       have X1 := fun i => zDd x1 i
       have X2 := fun i => zDd x2 i
       have X3 := fun i => zDd x3 i
       have X4 := fun i => zDd x4 i
       have X5 := fun i => zDd x5 i
       have Y0 := fun i => zDd y0 i
       have Y1 := fun i => zDd y1 i
       have Y2 := fun i => zDd y2 i
       have Y3 := fun i => zDd y3 i
       refine wp_region_bl (by kernel_rfl) (by kernel_rfl) ?_
       repeat (go_big_quiet_step (exact HCALL.out _))
       refine wpQuiet_nil ?_
       intro w5 hw5
       obtain ⟨i5, e5⟩ := hw5
       have hb5 := i5.2
       rw [← e5] at hb5
       have HB5 : zAa (Below w4.heap.size w4 w5) := ⟨HB.out.trans (hb5.mono HB.out.size)⟩
       clear X0 X1 X2 X3 X4 X5 Y0 Y1 Y2 Y3 HCALL
       replace x0 := (hb5.cell (World.block_lt_of_cell? _ _ x0)).trans x0
       replace x1 := (hb5.cell (World.block_lt_of_cell? _ _ x1)).trans x1
       replace x2 := (hb5.cell (World.block_lt_of_cell? _ _ x2)).trans x2
       replace x3 := (hb5.cell (World.block_lt_of_cell? _ _ x3)).trans x3
       replace y0 := (hb5.cell (World.block_lt_of_cell? _ _ y0)).trans y0
       replace y1 := (hb5.cell (World.block_lt_of_cell? _ _ y1)).trans y1
       replace y2 := (hb5.cell (World.block_lt_of_cell? _ _ y2)).trans y2
       replace y3 := (hb5.cell (World.block_lt_of_cell? _ _ y3)).trans y3
       clear e5 i5 hb5 x4 x5
       go_upto_region 16 with fail
       have X0 := fun i => zDd x0 i
       have X1 := fun i => zDd x1 i
       have X2 := fun i => zDd x2 i
       have X3 := fun i => zDd x3 i
       have Y0 := fun i => zDd y0 i
       have Y1 := fun i => zDd y1 i
       have Y2 := fun i => zDd y2 i
       have Y3 := fun i => zDd y3 i
       refine wp_region_bl (by kernel_rfl) (by kernel_rfl) ?_
       repeat (go_big_quiet_step (exact HCOL.out _ _))
       refine wpQuiet_nil ?_
       intro w6 hw6
       obtain ⟨i6, e6⟩ := hw6
       have hb6 := i6.2
       rw [← e6] at hb6
       have HB6 : zAa (Below w4.heap.size w4 w6) := ⟨HB5.out.trans (hb6.mono HB5.out.size)⟩
       clear e6 i6 hb6 HCOL X0 X1 X2 X3 Y0 Y1 Y2 Y3 x0 x1 x2 x3 y0 y1 y2 y3 hk1 hk2 z1 z2 z3 z4 z5
       cases cb
       case true =>
        have HN1 := zAa.mk (HMORE.out rfl).1
        have hn4 := (HMORE.out rfl).2
        have hn5 : ¬ (4 : Int) < (nn : Int) + 1 := by omega
        have hn6 : decide ((4 : Int) < (nn : Int) + 1) = false := decide_eq_false hn5
        go_wp2_with fail
        go_roundg (nc - (i + 1))
        case measure => omega
        case rel => exact ⟨i + 1, nn + 1, by omega, by omega, by go_num, by go_num, by omega, HN1, HB6⟩
       case false =>
        go_wp2_with fail
        go_roundg (nc - (i + 1))
        case measure => omega
        case rel => exact ⟨i + 1, 1, by omega, by omega, by go_num, by go_num, by omega, HONE, HB6⟩)
    ·have hltz : ¬ (i : Int) < (nc : Int) := by omega
     obtain rfl : i = nc := by omega
     have HT5 := zAa.mk (HT4.out.keep HB.out)
     have hback := HTL.out.back
     have HOF := zAa.mk (tof_any a b cs A4 c4 wr (by rw [HNC.out]; exact Kd.zBb HC4.out.1 HB.out) (by rw [HNC.out]; omega) (fun x hx => ⟨(HTL.out.ok.ok x hx).t0, (HTL.out.ok.ok x hx).t1⟩))
     unfold OfPost at HOF
     rw [hback.1, hback.2, HNC.out] at HOF
     clear hback HC4 HR
     go_wp2_with fail
     refine HOF.out.mono ?_
     rintro e w5 ⟨hz, _, hb⟩
     obtain ⟨u, rfl, _, htu⟩ := hz (by trivial)
     have HB5 : zAa (Below w.heap.size w w5) := ⟨HBW.out.trans (hb.mono HBW.out.size)⟩
     have HT6 := zAa.mk (HT5.out.keep hb)
     have HU5 := zAa.mk htu
     have HRT : zAa (∀ X, Below w5.heap.size w5 X → ∀ (v : Nat) (ok : Nat → Prop), TabAt ok w5 v a b cs → Calls Tryz.prog 26 #[.pointer (some ⟨v, 0, none⟩)] X fun e w' => ∃ A n c, e = .returned (.slice A n c) ∧ n = (rootM a b cs).length ∧ n ≤ c ∧ kB.C w' A n (rootM a b cs) ∧ Below X.heap.size X w') := ⟨fun X hX v ok hT => (root_tab ok X v a b cs (hT.keep hX) HAB.out.1 HAB.out.2).mono fun e w' h => by
      obtain ⟨v, rfl, hr, hb⟩ := h
      obtain ⟨A, c, rfl, h2, h3⟩ := Kd.zGa hr
      exact ⟨A, _, c, rfl, rfl, h2, h3, hb⟩⟩
     have HRL : zAa ((rootM a b cs).length ≤ 10000) := ⟨by rw [rootM_len]; omega⟩
     obtain ⟨rm, hrm⟩ : ∃ x, rootM a b cs = x := ⟨_, rfl⟩
     rw [hrm] at HRT HRL
     clear hrm hz hb htu HOF HT5 HB HBW
     go_wp2_with fail
     refine (HRT.out w5 (Below.refl _ _) u _ HU5.out).mono ?_
     rintro e w6 ⟨A6, n6, c6, rfl, hn6, hc6, hC6, hb⟩
     have HB6 := zAa.mk hb
     have HC6 := zAa.mk (And.intro hn6 (And.intro hc6 hC6))
     clear hn6 hc6 hC6 hb
     go_wp2_with fail
     refine (HRT.out w6 HB6.out w.heap.size _ HT6.out).mono ?_
     rintro e w7 ⟨A7, n7, c7, rfl, hn7, hc7, hC7, hb⟩
     have HB7 : zAa (Below w5.heap.size w5 w7) := ⟨HB6.out.trans (hb.mono HB6.out.size)⟩
     have hsm := rsame_any A6 c6 rm A7 c7 rm w7 (by rw [← HC6.out.1]; exact Kd.zBb HC6.out.2.2 hb) (by rw [← HC6.out.1]; exact HC6.out.2.1) (by rw [← hn7]; exact hC7) (by rw [← hn7]; exact hc7) HRL.out
     rw [decide_eq_true rfl, ← hn7] at hsm
     have h67 : n6 = n7 := HC6.out.1.trans hn7.symm
     have HSM := zAa.mk hsm
     subst h67
     clear hn7 hc7 hC7 hb hsm HC6 HRT HRL
     go_wp2_with fail
     refine HSM.out.mono ?_
     rintro e w8 ⟨rfl, hb⟩
     have HB8 : zAa (Below w5.heap.size w5 w8) := ⟨HB7.out.trans (hb.mono HB7.out.size)⟩
     clear hb HSM
     have HTR := zAa.mk (tree_any _ w8 w.heap.size a b cs (HT6.out.keep HB8.out))
     go_wp2_with fail
     refine HTR.out.mono ?_
     rintro e w9 ⟨t, rfl, htr, rfl⟩
     have HLE := zAa.mk (len_any _ t _ w9 htr)
     rw [List.length_map, HNC.out] at HLE
     obtain ⟨pt, hpt⟩ := zBc t
     rw [hpt] at HLE ⊢
     clear htr HTR hpt
     go_wp2_with fail
     refine HLE.out.mono ?_
     rintro e w10 ⟨rfl, rfl⟩
     have HB9 : zAa (Below w.heap.size w w10) := ⟨HB5.out.trans (HB8.out.mono HB5.out.size)⟩
     go_wp2_with fail
     refine (HAL.out _ HB9.out).mono ?_
     rintro e w11 ⟨rfl, hb⟩
     have HB11 := zAa.mk hb
     clear hb
     go_wp2_with fail
     go_ret
     exact ⟨rfl, HB11.out⟩
end Go.Proofs.YtpckachmleonlaaGreatDoor
end
section
set_option linter.unusedVariables false
namespace Go.Proofs.YtpckachmleonlaaGreatDoor
open Go.RowKit Go.Proofs.YtpckachmleonlaaGreatDoorW.PrintWords
theorem tabletKeeps_card (a b : ByteArray) (m : Nat) (A : Option Addr) (c : Nat) (l : List OpM) (W : World) (ha : a.size ≤ maxLen) (hb : b.size ≤ maxLen) (hr : Kd.C (kO m) W A l.length l) (hc : l.length ≤ c) (ok : ∀ x ∈ l, MachO x) :
    Calls Tryz.prog 12 #[.string a, .string b, .slice A l.length c] W fun e W' => e = .returned (.bool true) ∧ Below W.heap.size W W' :=
  tabletKeeps_law a b m A c l W hr hc (fun o h => (ok o h).fit)
end Go.Proofs.YtpckachmleonlaaGreatDoor
end
