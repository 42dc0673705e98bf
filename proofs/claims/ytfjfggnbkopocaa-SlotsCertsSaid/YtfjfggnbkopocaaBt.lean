/- Slots: the law of certificates. -/
import Derived.Test.YtfjfggnbkopocaaBs
/- SlotsCerts. -/
set_option linter.unusedVariables false
set_option linter.unusedSimpArgs false
namespace Go.Proofs.Ytfjfggnbkopocaa
open Go.RowKit Go.Proofs.YtfjfggnbkopocaaW.PrintWords PSlotsTwo
attribute [local go_sem] ptr

set_option maxHeartbeats 32000000 in
set_option maxRecDepth 100000 in
theorem certs_law (f : Int) (A : Option Addr) (c : Nat) (l : List S33) (w : World) (hr : Kd.C k33 w A l.length l) (hc : l.length ≤ c) (hok : ∀ x ∈ l, opOk x) :
    Calls Try.prog 4 #[.int .i64 f, .slice A l.length c] w fun e w' => e = .returned (.bool true) ∧ Below w.heap.size w w' := by
  have HC := Aside0.mk hr
  have HOK := Aside0.mk hok
  have HCc := Aside0.mk hc
  clear hr hc hok
  by_cases hf : 1 ≤ f ∧ f ≤ 4
  · have HF := Aside0.mk hf
    clear hf
    cases hlb : lightB 60 l with
    | false =>
      go_enter Try.func4, Try.ntmps4
      go_wp2_with fail
      refine (New_ok HF.out.1 HF.out.2 w).mono ?_
      rintro e w1 ⟨rfl, hL, hb⟩
      have HB1 := Aside0.mk hb
      clear hL hb
      go_wp2_with fail
      refine (light_any A c l w1 (Kd.C_below HC.out HB1.out) HCc.out).mono ?_
      rintro e w2 ⟨rfl, n, rfl⟩
      rw [hlb]
      go_wp2_with fail
      refine (alive_any _).mono ?_
      rintro e w3 ⟨rfl, hb⟩
      have HB2 := Aside0.mk (below_to (pw_below_drewN HB1.out n) (Nat.le_refl _) hb)
      clear hb
      go_wp2_with fail
      go_ret
      exact ⟨rfl, HB2.out⟩
    | true =>
      have HLB := Aside0.mk hlb
      go_enter Try.func4, Try.ntmps4
      go_wp2_with fail
      refine (New_ok HF.out.1 HF.out.2 w).mono ?_
      rintro e w1 ⟨rfl, hL, hb⟩
      have HS1 := Aside0.mk (newSt hL hb)
      clear hL hb
      obtain ⟨lg, hlg⟩ : ∃ lg, w.heap.size + 1 = lg := ⟨_, rfl⟩
      obtain ⟨m, hm⟩ : ∃ m, w.heap.size = m := ⟨_, rfl⟩
      rw [hlg, hm] at HS1
      rw [hlg]
      clear hlg hm
      go_wp2_with fail
      refine (light_any A c l w1 (Kd.C_below HC.out HS1.out.below) HCc.out).mono ?_
      rintro e w2 ⟨rfl, n, rfl⟩
      rw [hlb]
      clear hlb
      go_wp2_with fail
      have hl60 : l.length ≤ 60 := by
        have := HLB.out
        unfold lightB at this
        simp only [Bool.and_eq_true, decide_eq_true_eq] at this
        exact this.1
      go_loopw [7] (fun v7 w' => ∃ i : Nat, i ≤ l.length ∧ v7 = .int .i64 i ∧ Aside0 (St w w' lg m f (runM f (l.take i)))) (fun v7 _ => l.length - (RowKit.intOf v7).toNat)
      case atStart => exact ⟨0, by omega, rfl, ⟨HS1.out.keep (pw_below_drewN (Below.refl _ _) n)⟩⟩
      case round =>
        obtain ⟨i, hi, rfl, HS⟩ := hrel
        by_cases hlt : i < l.length
        · have h3 : (i : Int) < l.length := by omega
          have HI : Aside0 (Inv f (runM f (l.take i))) := ⟨run_inv HF.out.1 HLB.out HOK.out i hi⟩
          have HI2 : Aside0 (Inv f (runM f (l.take (i + 1)))) := ⟨run_inv HF.out.1 HLB.out HOK.out (i + 1) (by omega)⟩
          have HTK := Aside0.mk (take_runM f l i hlt)
          obtain ⟨ad, A3, c3, eA, HOP, HC3, HB3⟩ := op_at HC.out i hlt
          subst eA
          have HX := Aside0.mk (HOK.out l[i] (List.getElem_mem hlt))
          have HXo := Aside0.mk (okO_of HLB.out (List.getElem_mem hlt) HX.out)
          have HE : ∃ x, Aside0 (l[i] = x) := ⟨_, ⟨rfl⟩⟩
          obtain ⟨x, HE⟩ := HE
          have hE := HE.out
          rw [hE] at HOP HC3 HB3 HX HXo HTK
          clear hE
          obtain ⟨M, hM⟩ : ∃ M, runM f (l.take i) = M := ⟨_, rfl⟩
          obtain ⟨M', hM'⟩ : ∃ M, runM f (l.take (i + 1)) = M := ⟨_, rfl⟩
          rw [hM'] at HI2
          rw [hM] at HS HI
          rw [hM, hM'] at HTK
          have HM' := Aside0.mk hM'
          clear hM hM'
          have HQ := Aside0.mk (okQ_of (u64_of HX.out.2.2.1).1 (u64_of HX.out.2.2.1).2)
          obtain ⟨p0, p1, p2, p3⟩ := HOP.out wr HS.out.below
          go_wp2_with fail
          refine (one_any HS.out HI.out.ok HF.out.1 HF.out.2 (opO x) HXo.out.1 A3 c3 HC3.out HB3.out).mono ?_
          rintro e w3 ⟨rfl, hS3⟩
          rw [← HTK.out] at hS3
          have HS3 := Aside0.mk hS3
          clear hS3 p0 p1 p2 p3
          go_wp2_with fail
          go_roundw
          case rel => exact ⟨i + 1, by omega, by go_num, ⟨by rw [HM'.out]; exact HS3.out⟩⟩
          case measure => simp [RowKit.intOf]; omega
        · have h3 : ¬ ((i : Int) < l.length) := by omega
          have HI : Aside0 (Inv f (runM f (l.take i))) := ⟨run_inv HF.out.1 HLB.out HOK.out i hi⟩
          obtain ⟨M, hM⟩ : ∃ M, runM f (l.take i) = M := ⟨_, rfl⟩
          rw [hM] at HS HI
          clear hM hlt
          go_wp2_with fail
          refine (certsM_any HS.out HI.out.ok).mono ?_
          rintro e w3 ⟨v8, rfl, r, hp, hu, hr, hb⟩
          have HS3 := Aside0.mk (HS.out.keep hb)
          rw [certs_win HI.out hp hu] at hr
          obtain ⟨cs, hcs⟩ : ∃ cs, (winL M.low 8).filterMap (certQ M.L) = cs := ⟨_, rfl⟩
          have HAT : Aside0 (∀ (d : Nat) c, d < 8 → bestV M (M.low + ((d : Int) + 1)) = some c → cs[cntW M d]? = some c.texts) := ⟨fun d c hd h => by rw [← hcs]; exact cnt_at hd h⟩
          have HLN : Aside0 (cntW M 8 = cs.length) := ⟨by rw [← hcs]; rfl⟩
          rw [hcs] at hr
          have HR3 := Aside0.mk hr
          obtain ⟨A8, c8, e8⟩ := Kd.R_slice hr
          subst e8
          have HMlo : Aside0 (0 ≤ M.low ∧ M.low ≤ 4611686018427387895) := ⟨HI.out.ok.low, HI.out.high⟩
          have HCL : Aside0 (cs.length ≤ 8) := ⟨by
            rw [← hcs]
            have := List.length_filterMap_le (certQ M.L) (winL M.low 8)
            have h5 : (winL M.low 8).length = 8 := by simp [winL]
            omega⟩
          have hcl := HCL.out
          clear hp hu hr hb hcs h3 hi
          go_wp2_with fail
          go_loopw [9, 10] (fun v9 v10 w' => ∃ d : Nat, d ≤ 8 ∧ v9 = .int .i64 (cntW M d) ∧ v10 = .int .u64 ((d : Int) + 1) ∧ Aside0 (St w w' lg m f M) ∧ Aside0 (kL.R 44 w' 0 tr (.slice A8 cs.length c8) cs)) (fun _ v10 _ => 9 - (RowKit.intOf v10).toNat)
          case atStart => exact ⟨0, by omega, rfl, rfl, HS3, HR3⟩
          case round =>
            obtain ⟨d, hd, rfl, rfl, HSd, HRd⟩ := hrel
            have hlo := HMlo.out
            by_cases hd8 : d < 8
            · have e1 : decide ((d : Int) + 1 ≤ 8) = true := dt (by omega)
              have eW : IntKind.u64.wrap (M.low + ((d : Int) + 1)) = M.low + ((d : Int) + 1) := Ytfjfggnbkopocaa.u64 (by omega)
              go_wp2_with fail
              refine (lowM_any HSd.out).mono ?_
              rintro e w4 ⟨rfl, rfl⟩
              go_wp2_with fail
              refine (Best_any HSd.out HI.out.ok (okQ_of (q := M.low + ((d : Int) + 1)) (by omega) (by omega))).mono ?_
              rintro e w5 ⟨v12, rfl, ho, hb⟩
              have HS5 := Aside0.mk (HSd.out.keep hb)
              have HR5 := Aside0.mk (Kd.R_below HRd.out hb)
              obtain ⟨A12, c12, e12, l12, r12, _⟩ := ho.reads
              subst e12
              have HO5 := Aside0.mk r12
              have HL5 := Aside0.mk l12
              clear ho hb l12 r12 e1 eW
              cases hbest : bestV M (M.low + ((d : Int) + 1)) with
              | none =>
                have hcn := cnt_none hbest
                have HCN := Aside0.mk hcn
                clear hcn hbest
                go_wp2_with fail
                go_roundw
                case rel => exact ⟨d + 1, by omega, by rw [HCN.out], by go_num, HS5, HR5⟩
                case measure => simp [RowKit.intOf]; omega
              | some ce =>
                have HCN := Aside0.mk (cnt_some hbest)
                have hat := HAT.out d ce hd8 hbest
                have HBV := Aside0.mk (best_view HI.out hbest)
                have HCT := Aside0.mk (cert_texts HBV.out.2.1)
                have HV0 : Aside0 (0 ≤ ce.view) := ⟨best_pos HI.out hbest⟩
                have HTL : Aside0 (ce.texts.length ≤ 100 ∧ ce.sum.length ≤ 100) := ⟨by
                  unfold bestV at hbest
                  cases hs : getQ M.L (M.low + ((d : Int) + 1)) with
                  | none => rw [hs] at hbest; cases hbest
                  | some s =>
                    rw [hs] at hbest
                    have := (HI.out.ok.get hs).2.2.2 ce hbest
                    exact ⟨this.2.1, this.1⟩⟩
                have HO6 : Aside0 (kB.R 5 w5 0 tr (.slice A12 ce.sum.length c12) ce.sum) := ⟨by have := HO5.out; rw [hbest] at this; exact this⟩
                clear HO5
                obtain ⟨at_, hatn⟩ : ∃ a, cntW M d = a := ⟨_, rfl⟩
                rw [hatn] at hat HCN ⊢
                have HAD := Aside0.mk hat
                have hlt : at_ < cs.length := (List.getElem?_eq_some_iff.1 hat).1
                obtain ⟨ad8, At, ct, eA, hcell, hCt⟩ := row_at HR5.out at_ hat
                subst eA
                have HCt := Aside0.mk hCt
                have h0 : 0 < ce.texts.length := by have := HCT.out.1; have := HF.out.1; omega
                obtain ⟨adt, At0, ct0, eA, hfrom, _, _, _⟩ := sig_at hCt 0 h0
                subst eA
                rw [HCT.out.2.1 h0] at hfrom
                simp only [Nat.zero_mul, Go.Addr.add_zero'] at hfrom
                have e3 : decide ((at_ : Int) ≥ cs.length) = false := df (by omega)
                have e3a : decide (cs.length ≤ at_) = false := df (by omega)
                have e3b : decide (at_ ≥ cs.length) = false := df (by omega)
                have e3c : decide ((cs.length : Int) ≤ at_) = false := df (by omega)
                have e4 : ((ce.texts.length : Int) != 2 * f + 1) = false := by rw [HCT.out.1]; simp
                have e5 : (prim ce.view f != prim ce.view f) = false := by simp
                have e6 : wrap64 (2 * f) = 2 * f := Go.IntWalk.wrap64_in _ (by have := HF.out; omega)
                have e7 : wrap64 (2 * f + 1) = 2 * f + 1 := Go.IntWalk.wrap64_in _ (by have := HF.out; omega)
                have HCELL := Aside0.mk (And.intro hcell hfrom)
                have HTN := Aside0.mk HCT.out.1
                have hT : Aside0 (ce.texts.length ≤ 100) := ⟨HTL.out.1⟩
                simp only [hbest]
                clear hbest hat hCt hatn
                go_wp2_with fail
                go_cut [89] (fun v89 wx => Aside0 (v89 = .bool false ∧ Below w5.heap.size w5 wx))
                case first =>
                  have hc8 := bl_cell hcell
                  have hcf := bl_cell hfrom
                  have HPr : ∀ j : Bl w5, Calls Try.prog 17 #[.int .u64 ce.view, .int .i64 f] j.1 fun r w' => r = .returned (.int .u64 (prim ce.view f)) ∧ ∃ k : Bl w5, w' = k.1 := fun j => bl_call ((Primary14_any HF.out.1 HF.out.2 HV0.out j.1).mono (fun _ _ ⟨a1, a2⟩ => ⟨a1, by rw [a2]; exact Below.refl _ _⟩))
                  clear hcell hfrom
                  refine wp_region_bl (by kernel_rfl) (by kernel_rfl) ?_
                  repeat (go_big_quiet_step (exact HPr _))
                  refine wpQuiet_nil ?_
                  rintro w11 ⟨⟨w11', hb1⟩, rfl⟩
                  have HB11 := Aside0.mk hb1
                  clear hb1
                  go_wp2_with fail
                  go_meet
                  exact ⟨⟨rfl, HB11.out⟩⟩
                case rest =>
                  obtain ⟨rfl, hbl⟩ := hcut.out
                  have HS6 := Aside0.mk (HS5.out.keep hbl)
                  have HR6 := Aside0.mk (Kd.R_below HR5.out hbl)
                  have HB6 := Aside0.mk hbl
                  clear hbl hcell hfrom e3 e3a e3b e3c e4 e5 e6 e7
                  obtain ⟨W6, rfl⟩ : ∃ W, W = wc := ⟨_, rfl⟩
                  have ht100 := hT.out
                  go_wp2_with fail
                  go_loopw [14] (fun v14 w' => ∃ j : Nat, j ≤ ce.texts.length ∧ v14 = .int .i64 j ∧ Aside0 (Below W6.heap.size W6 w')) (fun v14 _ => ce.texts.length - (RowKit.intOf v14).toNat)
                  case atStart => exact ⟨0, by omega, rfl, ⟨Below.refl _ _⟩⟩
                  case round =>
                    obtain ⟨j, hj, rfl, HBw⟩ := hrel
                    have HC2 : Aside0 (kS.C wr (some adt) ce.texts.length ce.texts) := ⟨Kd.C_below (Kd.C_below HCt.out HB6.out) HBw.out⟩
                    have hcell : wr.cell? (ad8.add at_) = some (.slice (some adt) ce.texts.length ct) := fr_ret HBw.out (fr_ret HB6.out HCELL.out.1)
                    have hfrom : wr.cell? adt = some (.int .u64 (prim ce.view f)) := fr_ret HBw.out (fr_ret HB6.out HCELL.out.2)
                    by_cases hjl : j < ce.texts.length
                    · have hj3 : (j : Int) < ce.texts.length := by omega
                      obtain ⟨adt', Aj, cj, eA, hfj, htj, hlj, hCj⟩ := sig_at HC2.out j hjl
                      injection eA with eA
                      subst eA
                      have htag := HCT.out.2.2.1 j hjl
                      rw [htag] at htj hlj hCj
                      have HCj := Aside0.mk hCj
                      have HLj := Aside0.mk hlj
                      have hR9 := Kd.R_reads' (Kd.R_below (Kd.R_below HO6.out HB6.out) HBw.out)
                      have HR9 := Aside0.mk hR9
                      obtain ⟨fj, hfj0⟩ : ∃ x, ce.texts[j].from_ = x := ⟨_, rfl⟩
                      rw [hfj0] at hfj
                      have HNE : Aside0 (0 < j → fj ≠ prim ce.view f) := ⟨fun hp => by
                        have := HCT.out.2.2.2.1 j hjl h0 hp
                        rw [hfj0, HCT.out.2.1 h0] at this
                        exact this⟩
                      have HSm : ∀ k : Bl wr, Calls Try.prog 13 #[.slice Aj ce.sum.length cj, .slice A12 ce.sum.length c12] k.1 fun r w' => r = .returned (.bool true) ∧ ∃ k' : Bl wr, w' = k'.1 := fun k => bl_call ((same_any (Kd.C_below HCj.out k.2) HLj.out (Kd.C_below HR9.out.2.2 k.2) HR9.out.2.1 rfl (by have := HTL.out.2; omega)).mono (fun _ _ ⟨a1, a2⟩ => ⟨a1, below_drawn a2⟩))
                      have HFJ := Aside0.mk hfj0
                      clear htag hlj hCj hR9 hfj0
                      go_wp2_with fail
                      cases j with
                      | zero =>
                        have hc8 := bl_cell hcell
                        simp only [Nat.zero_mul, Go.Addr.add_zero'] at htj
                        have hc9 := bl_cell htj
                        have g1 : decide ((0 : Int) > 0) = false := by decide
                        refine wp_region_bl (by kernel_rfl) (by kernel_rfl) ?_
                        repeat (go_big_quiet_step (exact HSm _))
                        refine wpQuiet_nil ?_
                        rintro w11 ⟨⟨w11', hb1⟩, rfl⟩
                        have HB11 := Aside0.mk hb1
                        clear hb1
                        go_wp2_with fail
                        go_roundw
                        case rel => exact ⟨1, by omega, by go_num, ⟨HBw.out.trans (HB11.out.mono HBw.out.size)⟩⟩
                        case measure => simp [RowKit.intOf]; omega
                      | succ k =>
                        have e5 : (fj == prim ce.view f) = false := beq_eq_false_iff_ne.2 (HNE.out (by omega))
                        have g1 : decide ((k : Int) + 1 > 0) = true := dt (by omega)
                        have hc8 := bl_cell hcell
                        have hc9 := bl_cell htj
                        have hc10 := bl_cell hfj
                        have hc11 := bl_cell hfrom
                        by_cases hk : 0 < k
                        · have g2 : decide ((k : Int) + 1 > 1) = true := dt (by omega)
                          obtain ⟨adt', Ak, ck, eA, hfk, _, _, _⟩ := sig_at HC2.out k (by omega)
                          injection eA with eA
                          subst eA
                          have hlt2 := HCT.out.2.2.2.2 k hjl hk
                          obtain ⟨fk, hfk0⟩ : ∃ x, ce.texts[k].from_ = x := ⟨_, rfl⟩
                          rw [hfk0] at hfk hlt2
                          rw [HFJ.out] at hlt2
                          have g3 : decide (fk ≥ fj) = false := df (by omega)
                          have hc12 := bl_cell hfk
                          clear hlt2 hfk0
                          refine wp_region_bl (by kernel_rfl) (by kernel_rfl) ?_
                          repeat (go_big_quiet_step (exact HSm _))
                          refine wpQuiet_nil ?_
                          rintro w11 ⟨⟨w11', hb1⟩, rfl⟩
                          have HB11 := Aside0.mk hb1
                          clear hb1
                          go_wp2_with fail
                          go_roundw
                          case rel => exact ⟨k + 2, by omega, by go_num, ⟨HBw.out.trans (HB11.out.mono HBw.out.size)⟩⟩
                          case measure => simp [RowKit.intOf]; omega
                        · have g2 : decide ((k : Int) + 1 > 1) = false := df (by omega)
                          clear hk
                          refine wp_region_bl (by kernel_rfl) (by kernel_rfl) ?_
                          repeat (go_big_quiet_step (exact HSm _))
                          refine wpQuiet_nil ?_
                          rintro w11 ⟨⟨w11', hb1⟩, rfl⟩
                          have HB11 := Aside0.mk hb1
                          clear hb1
                          go_wp2_with fail
                          go_roundw
                          case rel => exact ⟨k + 2, by omega, by go_num, ⟨HBw.out.trans (HB11.out.mono HBw.out.size)⟩⟩
                          case measure => simp [RowKit.intOf]; omega
                    · have hj3 : ¬ ((j : Int) < ce.texts.length) := by omega
                      have hj3a : decide ((j : Int) < ce.texts.length) = false := df hj3
                      have HS9 := Aside0.mk (HS6.out.keep HBw.out)
                      have HR9 := Aside0.mk (Kd.R_below HR6.out HBw.out)
                      clear hjl hj hcell hfrom
                      have hcell : wr.cell? (ad8.add at_) = some (.slice (some adt) ce.texts.length ct) := fr_ret HBw.out (fr_ret HB6.out HCELL.out.1)
                      go_wp2_with fail
                      go_roundw
                      case rel => exact ⟨d + 1, by omega, by rw [HCN.out]; go_num, by go_num, HS9, HR9⟩
                      case measure => simp [RowKit.intOf]; omega
            · have e1 : decide ((d : Int) + 1 ≤ 8) = false := df (by omega)
              have HD : Aside0 (cntW M d = cs.length) := ⟨by rw [show d = 8 by omega]; exact HLN.out⟩
              have hcn := HD.out
              rw [hcn]
              clear hcn
              have e2 : ((cs.length : Int) == cs.length) = true := by simp
              go_wp2_with fail
              refine (alive_any _).mono ?_
              rintro e w9 ⟨rfl, hb⟩
              have HB2 := Aside0.mk (below_to HSd.out.below (Nat.le_refl _) hb)
              clear hb
              go_wp2_with fail
              go_ret
              exact ⟨rfl, HB2.out⟩

  · go_enter Try.func4, Try.ntmps4
    go_wp2_with fail
    refine (New_bad hf w).mono ?_
    rintro e w1 ⟨rfl, hb⟩
    have HB1 := Aside0.mk hb
    clear hb hf
    go_wp2_with fail
    refine (light_any A c l w1 (Kd.C_below HC.out HB1.out) HCc.out).mono ?_
    rintro e w2 ⟨rfl, n, rfl⟩
    cases lightB 60 l
    all_goals (
      go_wp2_with fail
      refine (alive_any _).mono ?_
      rintro e w3 ⟨rfl, hb⟩
      have HB2 := Aside0.mk (below_to (pw_below_drewN HB1.out n) (Nat.le_refl _) hb)
      clear hb
      go_wp2_with fail
      go_ret
      exact ⟨rfl, HB2.out⟩)
theorem slotsCerts_law (f : Int) (A : Option Addr) (c : Nat) (l : List S33) (w : World) (_ : (Lit.int .i64 f).wf = true) (hr : Kd.C k33 w A l.length l) (hc : l.length ≤ c) (hok : ∀ x ∈ l, opOk x) :
    Calls Try.prog 4 #[.int .i64 f, .slice A l.length c] w fun e w' => e = .returned (.bool true) ∧ Below w.heap.size w w' := certs_law f A c l w hr hc hok
end Go.Proofs.Ytfjfggnbkopocaa
