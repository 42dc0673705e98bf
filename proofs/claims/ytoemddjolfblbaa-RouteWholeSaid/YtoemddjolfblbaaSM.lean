/- The law RouteWhole at its call: true for every slice of parts and every two stretches. -/
import Derived.Test.YtoemddjolfblbaaSK
/- The law RouteWhole. -/
set_option linter.unusedVariables false
set_option linter.unusedSimpArgs false
namespace Go.Proofs.Ytoemddjolfblbaa
open Go.RowKit Go.Proofs.YtoemddjolfblbaaW.PrintWords

set_option maxHeartbeats 4000000 in
set_option maxRecDepth 100000 in
theorem whole_yesL (A : Option Addr) (c : Nat) (l : List Part) (f m_ t : ByteArray) (w : World) (hr : Kd.C kP w A l.length l) (hc : l.length ≤ c) (hi : lightB l = true) (s1 : l.length ≤ 100) (hz : f.size ≤ 32) (hy : m_.size ≤ 32) (hx : t.size ≤ 32) (hR : rightB l = true) (q1 : belowB f m_ = true) (q2 : t.toList.isEmpty = false) (q3 : belowB m_ t = true) :
    Calls Try.prog 6 #[.slice A l.length c, .string f, .string m_, .string t] w (TrueB w) := by
  have hfm := q1
  have hmt : t.toList.isEmpty = true ∨ belowB m_ t = true := .inr q3
  have hL := (rightB_iff l).1 hR
  have HZ : Aside0 (∀ f t : ByteArray, f.size ≤ 32 → t.size ≤ 32 → coverK l f t = 0) := ⟨fun f t h1 h2 => (cover_zero hL h1 h2).1⟩
  have HALL : Aside0 (coverR l no0 no0 = l) := ⟨(cover_zero hL (by decide) (by decide)).2.trans (refG_all hL)⟩
  obtain ⟨la, hla⟩ : ∃ a, coverR l f m_ = a := ⟨_, rfl⟩
  obtain ⟨lb, hlb⟩ : ∃ a, coverR l m_ t = a := ⟨_, rfl⟩
  obtain ⟨lc, hlc⟩ : ∃ a, coverR l f t = a := ⟨_, rfl⟩
  have na : la.length ≤ 100 := hla ▸ Nat.le_trans (coverR_len l f m_) s1
  have nb : lb.length ≤ 100 := hlb ▸ Nat.le_trans (coverR_len l m_ t) s1
  have nc : lc.length ≤ 100 := hlc ▸ Nat.le_trans (coverR_len l f t) s1
  have hlaw := whole_law hL hz hy hx hfm hmt
  rw [hla, hlb, hlc] at hlaw
  have HLa := Aside0.mk hla
  have HLb := Aside0.mk hlb
  have HLc := Aside0.mk hlc
  clear hla hlb hlc hfm hmt
  have HR := Aside0.mk hr
  have HI := Aside0.mk hi
  have HRK : Aside0 (rightK l = 0) := ⟨by unfold rightK; rw [hR]; rfl⟩
  have HRB := Aside0.mk hR
  clear hr hi hR hL
  have e_f : decide ((32 : Int) < (f.size : Int)) = false := df (by omega)
  have e_f' : decide (32 < f.size) = false := df (by omega)
  have e_m_ : decide ((32 : Int) < (m_.size : Int)) = false := df (by omega)
  have e_m_' : decide (32 < m_.size) = false := df (by omega)
  have e_t : decide ((32 : Int) < (t.size : Int)) = false := df (by omega)
  have e_t' : decide (32 < t.size) = false := df (by omega)
  have q1' := leb m_ f q1 (y := false) rfl
  have q2' : (!t.toList.isEmpty) = true := by rw [q2]; rfl
  have q3' := leb t m_ q3 (y := false) rfl
  go_enter Try.func6, Try.ntmps6
  go_wp2_with fail
  refine (light_any _ _ l _ HR.out).mono ?_
  rintro e w1 ⟨rfl, rfl⟩
  rw [HI.out]
  go_wp2_with fail
  refine (own_any _ _ l _ HR.out (by omega)).mono ?_
  rintro e w1 ⟨v1, rfl, hr1, hb1⟩
  obtain ⟨A1, c1, rfl, hc1, hk1⟩ := Kd.R_reads hr1
  have HB1 := Aside0.mk hb1
  have HK1 := Aside0.mk hk1
  clear hr1 hb1 hk1
  go_wp2_with fail
  refine (right_any A1 c1 l _ HK1.out (by omega)).mono ?_
  rintro e w2 ⟨rfl, hb2⟩
  have HB2 := Aside0.mk (HB1.out.trans (hb2.mono HB1.out.size))
  clear hb2
  rw [HRK.out]
  go_wp2_with fail
  refine (own_any _ _ l _ (Kd.C_below HR.out HB2.out) (by omega)).mono ?_
  rintro e w3 ⟨v3, rfl, hr3, hb3⟩
  obtain ⟨A3, c3, rfl, hc3, hk3⟩ := Kd.R_reads hr3
  have HB3 := Aside0.mk (HB2.out.trans (hb3.mono HB2.out.size))
  have HK3 := Aside0.mk hk3
  clear hr3 hb3 hk3
  go_wp2_with fail
  refine (cover_any A3 c3 l no0 no0 _ HK3.out hc3 (by omega) (by decide) (by decide)).mono ?_
  rintro e w4 ⟨v4, rfl, hr4, hb4⟩
  rw [HALL.out] at hr4
  rw [HZ.out no0 no0 (by decide) (by decide)]
  obtain ⟨A4, c4, rfl, hc4, hk4⟩ := Kd.R_reads hr4
  have HB4 := Aside0.mk (HB3.out.trans (hb4.mono HB3.out.size))
  have HK4 := Aside0.mk hk4
  clear hr4 hb4 hk4 HK3
  go_wp2_with fail
  refine (back_any A4 c4 l _ HK4.out (by omega)).mono ?_
  rintro e w5 ⟨v5, rfl, hr5, hb5⟩
  obtain ⟨A5, c5, rfl, hc5, hk5⟩ := Kd.R_reads hr5
  have HB5 := Aside0.mk (HB4.out.trans (hb5.mono HB4.out.size))
  have HK5 := Aside0.mk hk5
  clear hr5 hb5 hk5 HK4
  go_wp2_with fail
  refine (same_any A5 A c5 c l l _ HK5.out (Kd.C_below HR.out HB5.out) (by omega)).mono ?_
  rintro e w6 ⟨rfl, ⟨d6, rfl⟩⟩
  rw [same_refl]
  have HB6 := Aside0.mk (pw_drewN HB5.out d6)
  clear HK5
  go_wp2_with fail
  refine (own_any _ _ l _ (Kd.C_below HR.out HB6.out) (by omega)).mono ?_
  rintro e w7 ⟨v7, rfl, hr7, hb7⟩
  obtain ⟨A7, c7, rfl, hc7, hk7⟩ := Kd.R_reads hr7
  have HB7 := Aside0.mk (HB6.out.trans (hb7.mono HB6.out.size))
  have HK7 := Aside0.mk hk7
  clear hr7 hb7 hk7
  go_wp2_with fail
  refine (cover_any A7 c7 l f m_ _ HK7.out hc7 (by omega) (by omega) (by omega)).mono ?_
  rintro e w8 ⟨v8, rfl, hr8, hb8⟩
  rw [HLa.out] at hr8
  rw [HZ.out f m_ (by omega) (by omega)]
  obtain ⟨A8, c8, rfl, hc8, hk8⟩ := Kd.R_reads hr8
  have HB8 := Aside0.mk (HB7.out.trans (hb8.mono HB7.out.size))
  have Ha8 := Aside0.mk hk8
  clear hr8 hb8 hk8 HK7
  go_wp2_with fail
  refine (own_any _ _ l _ (Kd.C_below HR.out HB8.out) (by omega)).mono ?_
  rintro e w9 ⟨v9, rfl, hr9, hb9⟩
  obtain ⟨A9, c9, rfl, hc9, hk9⟩ := Kd.R_reads hr9
  have HB9 := Aside0.mk (HB8.out.trans (hb9.mono HB8.out.size))
  have HK9 := Aside0.mk hk9
  have Ha9 := Aside0.mk (Kd.C_below Ha8.out hb9)
  clear hr9 hb9 hk9
  go_wp2_with fail
  refine (cover_any A9 c9 l m_ t _ HK9.out hc9 (by omega) (by omega) (by omega)).mono ?_
  rintro e w10 ⟨v10, rfl, hr10, hb10⟩
  rw [HLb.out] at hr10
  rw [HZ.out m_ t (by omega) (by omega)]
  obtain ⟨A10, c10, rfl, hc10, hk10⟩ := Kd.R_reads hr10
  have HB10 := Aside0.mk (HB9.out.trans (hb10.mono HB9.out.size))
  have Hb10 := Aside0.mk hk10
  have Ha10 := Aside0.mk (Kd.C_below Ha9.out hb10)
  clear hr10 hb10 hk10 HK9
  go_wp2_with fail
  refine (own_any _ _ l _ (Kd.C_below HR.out HB10.out) (by omega)).mono ?_
  rintro e w11 ⟨v11, rfl, hr11, hb11⟩
  obtain ⟨A11, c11, rfl, hc11, hk11⟩ := Kd.R_reads hr11
  have HB11 := Aside0.mk (HB10.out.trans (hb11.mono HB10.out.size))
  have HK11 := Aside0.mk hk11
  have Ha11 := Aside0.mk (Kd.C_below Ha10.out hb11)
  have Hb11 := Aside0.mk (Kd.C_below Hb10.out hb11)
  clear hr11 hb11 hk11
  go_wp2_with fail
  refine (cover_any A11 c11 l f t _ HK11.out hc11 (by omega) (by omega) (by omega)).mono ?_
  rintro e w12 ⟨v12, rfl, hr12, hb12⟩
  rw [HLc.out] at hr12
  rw [HZ.out f t (by omega) (by omega)]
  obtain ⟨A12, c12, rfl, hc12, hk12⟩ := Kd.R_reads hr12
  have HB12 := Aside0.mk (HB11.out.trans (hb12.mono HB11.out.size))
  have Hc12 := Aside0.mk hk12
  have Ha12 := Aside0.mk (Kd.C_below Ha11.out hb12)
  have Hb12 := Aside0.mk (Kd.C_below Hb11.out hb12)
  clear hr12 hb12 hk12 HK11
  go_wp2_with (at_builtin; refine Kd.R_append_rows kP (Rr := kP.K (w12.alloc (.cells #[] 27))) (w0 := w12) w12.heap.size rfl (.tmp 97) (.tmp 98) 30 27 (.agg #[(.string ⟨#[]⟩), (.string ⟨#[]⟩), (.int .u64 0)]) 40 rfl Try.underlying30 info27 rfl (by decide) (by omega) (.slice (some ⟨w12.heap.size, 0, none⟩) 0 0) [] la A8 la.length c8 (fun _ => True) (fun _ => False) ?hs ?hx (R_empty (Nat.le_refl _)) (Kd.C_below Ha12.out ((Below.refl _ _).alloc (Nat.le_refl _) _)) kK_M (fun _ hk => hk.elim) (fun _ _ => trivial) ((Below.refl _ _).alloc (Nat.le_refl _) _) ?hB ?hl ?_; (case hs => simp [Act.eval]); (case hx => simp [Act.eval]); (case hB => simp); (case hl => simp; omega); intro v13 x13 ho hb hg _; have HO13 := Aside0.mk ho; have HB13 := Aside0.mk hb; clear ho hb hg)
  rcases hlaw with heq | ⟨a_, x, y, b_, h1, h2, h3, h4⟩
  · have HEQ := Aside0.mk heq
    clear heq
    go_loopw [17, 18, 19] (fun v vi vl w' => ∃ (j : Nat) (dn : List Part), j ≤ lb.length ∧ dn.length ≤ la.length + j ∧ vi = .int .i64 j ∧ Aside0 (dn = la ++ lb.take j) ∧ Aside0 (Kd.R kP 27 w' w12.heap.size (fun _ => True) v dn) ∧ Aside0 (Below w12.heap.size w12 w')) (fun _ vi _ _ => lb.length - (intOf vi).toNat)
    case atStart => exact ⟨0, la, by omega, by omega, rfl, ⟨by simp⟩, HO13, HB13⟩
    case round =>
      obtain ⟨j, dn, hj, hdn, rfl, HS, HO, HB⟩ := hrel
      by_cases hlt : j < lb.length
      · have h3 : (j : Int) < lb.length := by omega
        have h3' : decide (j < lb.length) = true := dt hlt
        have hb0 : (0 : Int) < lb.length := by omega
        obtain ⟨ad, rfl, HH⟩ := kP_hold Hb12.out j hlt
        obtain ⟨c0, c1, c2⟩ := HH.out _ HB.out
        have HSN : Aside0 (dn ++ [pat lb j] = la ++ lb.take (j + 1)) := ⟨by rw [HS.out, List.append_assoc, pat_take hlt]⟩
        by_cases hj0 : j = 0
        · subst hj0
          have hdn2 : dn = la := by rw [HS.out]; simp
          have g1 : decide ((lc.length : Int) < (la.length : Int) + (lb.length : Int)) = false := df (by have := congrArg List.length HEQ.out; rw [List.length_append] at this; omega)
          have g1' : decide (lc.length < la.length + lb.length) = false := df (by have := congrArg List.length HEQ.out; rw [List.length_append] at this; omega)
          have HS1 := HSN
          clear hdn2
          simp only [Nat.zero_mul, Addr.add, if_true] at c0 c1 c2
          rcases Nat.eq_zero_or_pos dn.length with hd0 | hd0
          · obtain ⟨A13, c13, rfl, hc13, hk13⟩ := Kd.R_reads HO.out
            clear hk13 hc13
            have HDL := Aside0.mk hd0
            rw [hd0]
            go_wp2_with fail
            go_quiet (fail)
            go_wp2_with (at_builtin; refine Kd.R_append kP (w0 := w12) w12.heap.size rfl (.tmp 145) (.tmp 150) 30 27 (.agg #[(.string ⟨#[]⟩), (.string ⟨#[]⟩), (.int .u64 0)]) 40 rfl Try.underlying30 info27 rfl (by decide) (by omega) (.slice A13 dn.length c13) dn (pat lb 0) _ (fun _ => True) (fun _ => False) ?hs ?hx (kP_mkM _ _ _ (pat lb 0)) (fun _ hk => hk.elim) (fun _ _ => trivial) (Kd.R_below HO.out (pw_drewN (Below.refl _ _) _)) (pw_drewN HB.out _) (pw_drewN HB.out _).size (by omega) ?_; (case hs => simp [Act.eval, HDL.out]); (case hx => simp [Act.eval]); intro v1 x1 ho hb _ _; have HO1 := Aside0.mk ho; have HB1 := Aside0.mk hb; clear ho hb)
            go_roundw
            case rel => exact ⟨0 + 1, _, by omega, by simp; omega, by go_num, HS1, HO1, HB1⟩
            case measure => simp [intOf]; omega
          · obtain ⟨k, hdl⟩ : ∃ k, dn.length = k + 1 := ⟨dn.length - 1, by omega⟩
            obtain ⟨g, c13, rfl⟩ := row_at HO.out hd0
            have HDL := Aside0.mk hdl
            have ho := HO.out
            rw [hdl] at ho ⊢
            have r3 := R_grp (k := k) ho (by omega)
            have k1 : (0 : Int) ≤ (k : Int) := by omega
            have k2 : (k : Int) < (k : Int) + 1 := by omega
            clear ho
            rcases Bool.eq_false_or_eq_true ((pat dn k).group == (pat lb 0).group) with g2 | g2
            · go_wp2_with fail
              go_quiet (fail)
              go_wp2_with (at_builtin; refine Kd.R_append kP (w0 := w12) w12.heap.size rfl (.tmp 145) (.tmp 150) 30 27 (.agg #[(.string ⟨#[]⟩), (.string ⟨#[]⟩), (.int .u64 0)]) 40 rfl Try.underlying30 info27 rfl (by decide) (by omega) (.slice (some ⟨g, 0, none⟩) dn.length c13) dn (pat lb 0) _ (fun _ => True) (fun _ => False) ?hs ?hx (kP_mkM _ _ _ (pat lb 0)) (fun _ hk => hk.elim) (fun _ _ => trivial) (Kd.R_below HO.out (pw_drewN (Below.refl _ _) _)) (pw_drewN HB.out _) (pw_drewN HB.out _).size (by omega) ?_; (case hs => simp [Act.eval, HDL.out]); (case hx => simp [Act.eval]); intro v1 x1 ho hb _ _; have HO1 := Aside0.mk ho; have HB1 := Aside0.mk hb; clear ho hb)
              go_roundw
              case rel => exact ⟨0 + 1, _, by omega, by simp; omega, by go_num, HS1, HO1, HB1⟩
              case measure => simp [intOf]; omega
            · go_wp2_with fail
              go_quiet (fail)
              go_wp2_with (at_builtin; refine Kd.R_append kP (w0 := w12) w12.heap.size rfl (.tmp 145) (.tmp 150) 30 27 (.agg #[(.string ⟨#[]⟩), (.string ⟨#[]⟩), (.int .u64 0)]) 40 rfl Try.underlying30 info27 rfl (by decide) (by omega) (.slice (some ⟨g, 0, none⟩) dn.length c13) dn (pat lb 0) _ (fun _ => True) (fun _ => False) ?hs ?hx (kP_mkM _ _ _ (pat lb 0)) (fun _ hk => hk.elim) (fun _ _ => trivial) (Kd.R_below HO.out (pw_drewN (Below.refl _ _) _)) (pw_drewN HB.out _) (pw_drewN HB.out _).size (by omega) ?_; (case hs => simp [Act.eval, HDL.out]); (case hx => simp [Act.eval]); intro v1 x1 ho hb _ _; have HO1 := Aside0.mk ho; have HB1 := Aside0.mk hb; clear ho hb)
              go_roundw
              case rel => exact ⟨0 + 1, _, by omega, by simp; omega, by go_num, HS1, HO1, HB1⟩
              case measure => simp [intOf]; omega
        · have e0 : ((j : Int) == 0) = false := ine (by omega)
          have HS1 := Aside0.mk (HSN.out)
          obtain ⟨A13, c13, rfl, hc13, hk13⟩ := Kd.R_reads HO.out
          have HDL := Aside0.mk (Eq.refl dn.length)
          clear hk13 hc13 hj0
          go_wp2_with fail
          go_quiet (fail)
          go_wp2_with (at_builtin; refine Kd.R_append kP (w0 := w12) w12.heap.size rfl (.tmp 145) (.tmp 150) 30 27 (.agg #[(.string ⟨#[]⟩), (.string ⟨#[]⟩), (.int .u64 0)]) 40 rfl Try.underlying30 info27 rfl (by decide) (by omega) (.slice A13 dn.length c13) dn (pat lb j) _ (fun _ => True) (fun _ => False) ?hs ?hx (kP_mkM _ _ _ (pat lb j)) (fun _ hk => hk.elim) (fun _ _ => trivial) (Kd.R_below HO.out (pw_drewN (Below.refl _ _) _)) (pw_drewN HB.out _) (pw_drewN HB.out _).size (by omega) ?_; (case hs => simp [Act.eval, HDL.out]); (case hx => simp [Act.eval]); intro v1 x1 ho hb _ _; have HO1 := Aside0.mk ho; have HB1 := Aside0.mk hb; clear ho hb)
          go_roundw
          case rel => exact ⟨j + 1, _, by omega, by simp; omega, by go_num, HS1, HO1, HB1⟩
          case measure => simp [intOf]; omega
      · obtain rfl : j = lb.length := by omega
        have h3' : decide (lb.length < lb.length) = false := df (by omega)
        have hfin : dn = lc := by rw [HS.out, List.take_length, HEQ.out]
        have hfin := hfin.symm
        subst hfin
        obtain ⟨A13, c13, rfl, hc13, hk13⟩ := Kd.R_reads HO.out
        clear hlt
        go_wp2_with fail
        refine (back_any A13 c13 lc _ hk13 (by omega)).mono ?_
        rintro e w15 ⟨v15, rfl, hr15, hb15⟩
        obtain ⟨A15, c15, rfl, hc15, hk15⟩ := Kd.R_reads hr15
        have HB15 := Aside0.mk (HB.out.trans (hb15.mono HB.out.size))
        have HK15 := Aside0.mk hk15
        clear hr15 hb15 hk15
        go_wp2_with fail
        refine (back_any A12 c12 lc _ (Kd.C_below Hc12.out HB15.out) (by omega)).mono ?_
        rintro e w16 ⟨v16, rfl, hr16, hb16⟩
        obtain ⟨A16, c16, rfl, hc16, hk16⟩ := Kd.R_reads hr16
        have HB16 := Aside0.mk (HB15.out.trans (hb16.mono HB15.out.size))
        have HK16 := Aside0.mk hk16
        have HK156 := Aside0.mk (Kd.C_below HK15.out hb16)
        clear hr16 hb16 hk16 HK15
        go_wp2_with fail
        refine (same_any A15 A16 c15 c16 lc lc _ HK156.out HK16.out (by omega)).mono ?_
        rintro e w17 ⟨rfl, ⟨d17, rfl⟩⟩
        rw [same_refl]
        go_wp2_with fail
        refine (alive_any _).mono ?_
        rintro e w18 ⟨rfl, hb18⟩
        go_wp2_with fail
        go_ret
        exact ⟨rfl, HB12.out.trans (((pw_drewN HB16.out d17).trans (hb18.mono HB16.out.size)).mono HB12.out.size)⟩
  · have HLX := Aside0.mk h1
    have HLY := Aside0.mk h2
    have HG := Aside0.mk h3
    obtain ⟨z, hz⟩ : ∃ z, z = (⟨x.from_, y.to_, x.group⟩ : Part) := ⟨_, rfl⟩
    have HZZ := Aside0.mk hz
    rw [← hz] at h4
    have HLZ := Aside0.mk h4
    clear h1 h2 h3 h4 hz
    go_loopw [17, 18, 19] (fun v vi vl w' => ∃ (j : Nat) (dn : List Part), j ≤ lb.length ∧ dn.length ≤ la.length + j ∧ vi = .int .i64 j ∧ Aside0 ((j = 0 ∧ dn = la) ∨ (∃ k, j = k + 1 ∧ dn = a_ ++ z :: b_.take k)) ∧ Aside0 (Kd.R kP 27 w' w12.heap.size (fun _ => True) v dn) ∧ Aside0 (Below w12.heap.size w12 w')) (fun _ vi _ _ => lb.length - (intOf vi).toNat)
    case atStart => exact ⟨0, la, by omega, by omega, rfl, ⟨.inl ⟨rfl, rfl⟩⟩, HO13, HB13⟩
    case round =>
      obtain ⟨j, dn, hj, hdn, rfl, HS, HO, HB⟩ := hrel
      by_cases hlt : j < lb.length
      · have h3 : (j : Int) < lb.length := by omega
        have h3' : decide (j < lb.length) = true := dt hlt
        have hb0 : (0 : Int) < lb.length := by omega
        obtain ⟨ad, rfl, HH⟩ := kP_hold Hb12.out j hlt
        obtain ⟨c0, c1, c2⟩ := HH.out _ HB.out
        have HSN : Aside0 (j ≠ 0 → (j + 1 = 0 ∧ dn ++ [pat lb j] = la) ∨ (∃ k, j + 1 = k + 1 ∧ dn ++ [pat lb j] = a_ ++ z :: b_.take k)) := ⟨fun h0 => by
          rcases HS.out with ⟨h1, _⟩ | ⟨k, h1, h2⟩
          · exact absurd h1 h0
          · refine .inr ⟨k + 1, by omega, ?_⟩
            have hbl : lb.length = b_.length + 1 := by rw [HLY.out]; simp
            have e1 : pat lb j = pat b_ k := by rw [HLY.out, h1]; rfl
            have e2 := pat_take (l := b_) (i := k) (by omega)
            rw [h2, e1, ← e2]
            simp⟩
        by_cases hj0 : j = 0
        · subst hj0
          have hdn2 : dn = la := by
            rcases HS.out with ⟨_, h⟩ | ⟨k, h, _⟩
            · exact h
            · omega
          have hll : la.length = a_.length + 1 := by rw [HLX.out]; simp
          have hbl : lb.length = b_.length + 1 := by rw [HLY.out]; simp
          have hcl : lc.length = a_.length + b_.length + 1 := by rw [HLZ.out]; simp; omega
          obtain ⟨k, hk⟩ : ∃ k, k = a_.length := ⟨_, rfl⟩
          have hdl : dn.length = k + 1 := by rw [hdn2, hll, hk]
          have g1 : decide ((lc.length : Int) < (la.length : Int) + (lb.length : Int)) = true := dt (by omega)
          have g1' : decide (lc.length < la.length + lb.length) = true := dt (by omega)
          have hpx : pat dn k = x := by rw [hdn2, HLX.out, hk, pat_append_right (Nat.le_refl _), Nat.sub_self]; rfl
          have hpy : pat lb 0 = y := by rw [HLY.out]; rfl
          have g2 : ((pat dn k).group == (pat lb 0).group) = true := by rw [hpx, hpy]; exact ieq HG.out
          have HST : Aside0 (dn.set k ⟨(pat dn k).from_, (pat lb 0).to_, (pat dn k).group⟩ = a_ ++ z :: b_.take 0) := ⟨by
            rw [hpx, hpy, HZZ.out, hdn2, HLX.out, List.set_append_right _ _ (by omega), hk, Nat.sub_self]
            simp⟩
          obtain ⟨g, c13, rfl⟩ := row_at HO.out (by omega)
          have ho := HO.out
          rw [hdl] at ho ⊢
          obtain ⟨r1, r2, hbg, _⟩ := R_to (k := k) ho (by omega) (pat lb 0).to_
          have r3 := R_grp (k := k) ho (by omega)
          have HOR := Aside0.mk ho
          have HBG := Aside0.mk hbg
          have k1 : (0 : Int) ≤ (k : Int) := by omega
          have k2 : (k : Int) < (k : Int) + 1 := by omega
          simp only [Nat.zero_mul, Addr.add, if_true] at c0 c1 c2
          have hk9 : k ≤ 200 := by omega
          clear hdn2 hll hbl hcl hk hdl hpx hpy ho hbg HS HSN
          go_wp2_with fail
          go_quiet (fail)
          go_wp2_with fail
          go_roundw
          case rel =>
            refine ⟨0 + 1, dn.set k ⟨(pat dn k).from_, (pat lb 0).to_, (pat dn k).group⟩, by omega, ?_, by go_num, ⟨.inr ⟨0, rfl, HST.out⟩⟩, ⟨(R_to (Kd.R_below HOR.out (pw_drewN (Below.refl _ _) _)) (by omega) _).2.2.2⟩, ⟨(pw_drewN HB.out _).setCell (p := ⟨g, k * 3 + 1, none⟩) HBG.out _⟩⟩
            rw [List.length_set]
            exact Nat.le_succ_of_le hdn
          case measure => simp [intOf]; omega
        · have e0 : ((j : Int) == 0) = false := ine (by omega)
          have HS1 := Aside0.mk (HSN.out hj0)
          obtain ⟨A13, c13, rfl, hc13, hk13⟩ := Kd.R_reads HO.out
          have HDL := Aside0.mk (Eq.refl dn.length)
          clear hk13 hc13 hj0
          go_wp2_with fail
          go_quiet (fail)
          go_wp2_with (at_builtin; refine Kd.R_append kP (w0 := w12) w12.heap.size rfl (.tmp 145) (.tmp 150) 30 27 (.agg #[(.string ⟨#[]⟩), (.string ⟨#[]⟩), (.int .u64 0)]) 40 rfl Try.underlying30 info27 rfl (by decide) (by omega) (.slice A13 dn.length c13) dn (pat lb j) _ (fun _ => True) (fun _ => False) ?hs ?hx (kP_mkM _ _ _ (pat lb j)) (fun _ hk => hk.elim) (fun _ _ => trivial) (Kd.R_below HO.out (pw_drewN (Below.refl _ _) _)) (pw_drewN HB.out _) (pw_drewN HB.out _).size (by omega) ?_; (case hs => simp [Act.eval, HDL.out]); (case hx => simp [Act.eval]); intro v1 x1 ho hb _ _; have HO1 := Aside0.mk ho; have HB1 := Aside0.mk hb; clear ho hb)
          go_roundw
          case rel => exact ⟨j + 1, _, by omega, by simp; omega, by go_num, HS1, HO1, HB1⟩
          case measure => simp [intOf]; omega
      · obtain rfl : j = lb.length := by omega
        have h3' : decide (lb.length < lb.length) = false := df (by omega)
        have hfin : dn = lc := by
          have hbl : lb.length = b_.length + 1 := by rw [HLY.out]; simp
          rcases HS.out with ⟨h1, _⟩ | ⟨k, h1, h2⟩
          · omega
          · obtain rfl : k = b_.length := by omega
            rw [h2, List.take_length, HLZ.out, HZZ.out]
        have hfin := hfin.symm
        subst hfin
        obtain ⟨A13, c13, rfl, hc13, hk13⟩ := Kd.R_reads HO.out
        clear hlt
        go_wp2_with fail
        refine (back_any A13 c13 lc _ hk13 (by omega)).mono ?_
        rintro e w15 ⟨v15, rfl, hr15, hb15⟩
        obtain ⟨A15, c15, rfl, hc15, hk15⟩ := Kd.R_reads hr15
        have HB15 := Aside0.mk (HB.out.trans (hb15.mono HB.out.size))
        have HK15 := Aside0.mk hk15
        clear hr15 hb15 hk15
        go_wp2_with fail
        refine (back_any A12 c12 lc _ (Kd.C_below Hc12.out HB15.out) (by omega)).mono ?_
        rintro e w16 ⟨v16, rfl, hr16, hb16⟩
        obtain ⟨A16, c16, rfl, hc16, hk16⟩ := Kd.R_reads hr16
        have HB16 := Aside0.mk (HB15.out.trans (hb16.mono HB15.out.size))
        have HK16 := Aside0.mk hk16
        have HK156 := Aside0.mk (Kd.C_below HK15.out hb16)
        clear hr16 hb16 hk16 HK15
        go_wp2_with fail
        refine (same_any A15 A16 c15 c16 lc lc _ HK156.out HK16.out (by omega)).mono ?_
        rintro e w17 ⟨rfl, ⟨d17, rfl⟩⟩
        rw [same_refl]
        go_wp2_with fail
        refine (alive_any _).mono ?_
        rintro e w18 ⟨rfl, hb18⟩
        go_wp2_with fail
        go_ret
        exact ⟨rfl, HB12.out.trans (((pw_drewN HB16.out d17).trans (hb18.mono HB16.out.size)).mono HB12.out.size)⟩
end Go.Proofs.Ytoemddjolfblbaa
