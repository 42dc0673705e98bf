/- Slots: the law of one sum. -/
import Derived.Test.YtfjfggnbkopocaaBq
/- SlotsOnce. -/
set_option linter.unusedVariables false
set_option linter.unusedSimpArgs false
namespace Go.Proofs.Ytfjfggnbkopocaa
open Go.RowKit Go.Proofs.YtfjfggnbkopocaaW.PrintWords PSlotsTwo
attribute [local go_sem] ptr

set_option maxHeartbeats 32000000 in
set_option maxRecDepth 100000 in
theorem once_any (f : Int) (A : Option Addr) (c : Nat) (l : List S33) (w : World) (hr : Kd.C k33 w A l.length l) (hc : l.length ≤ c) (hok : ∀ x ∈ l, opOk x) :
    Calls Try.prog 5 #[.int .i64 f, .slice A l.length c] w fun e w' => e = .returned (.bool true) ∧ Below w.heap.size w w' := by
  have HC := Aside0.mk hr
  have HOK := Aside0.mk hok
  have HCc := Aside0.mk hc
  clear hr hc hok
  by_cases hf : 1 ≤ f ∧ f ≤ 4
  · have HF := Aside0.mk hf
    clear hf
    cases hlb : lightB 60 l with
    | false =>
      go_enter Try.func5, Try.ntmps5
      go_wp2_with fail
      refine (New_ok HF.out.1 HF.out.2 w).mono ?_
      rintro e w1 ⟨rfl, hL, hb⟩
      have HB1 := Aside0.mk hb
      clear hL hb
      go_wp2_with fail
      refine (light_any A c l w1 (Kd.C_below HC.out HB1.out) HCc.out).mono ?_
      rintro e w2 ⟨rfl, n, rfl⟩
      rw [hlb]
      go_wp2_with fail
      refine (alive_any _).mono ?_
      rintro e w3 ⟨rfl, hb⟩
      have HB2 := Aside0.mk (below_to (pw_below_drewN HB1.out n) (Nat.le_refl _) hb)
      clear hb
      go_wp2_with fail
      go_ret
      exact ⟨rfl, HB2.out⟩
    | true =>
      have HLB := Aside0.mk hlb
      go_enter Try.func5, Try.ntmps5
      go_wp2_with fail
      refine (New_ok HF.out.1 HF.out.2 w).mono ?_
      rintro e w1 ⟨rfl, hL, hb⟩
      have HS1 := Aside0.mk (newSt hL hb)
      clear hL hb
      obtain ⟨lg, hlg⟩ : ∃ lg, w.heap.size + 1 = lg := ⟨_, rfl⟩
      obtain ⟨m, hm⟩ : ∃ m, w.heap.size = m := ⟨_, rfl⟩
      rw [hlg, hm] at HS1
      rw [hlg]
      clear hlg hm
      go_wp2_with fail
      refine (light_any A c l w1 (Kd.C_below HC.out HS1.out.below) HCc.out).mono ?_
      rintro e w2 ⟨rfl, n, rfl⟩
      rw [hlb]
      clear hlb
      go_wp2_with fail
      have hl60 : l.length ≤ 60 := by
        have := HLB.out
        unfold lightB at this
        simp only [Bool.and_eq_true, decide_eq_true_eq] at this
        exact this.1
      go_loopw [7, 8] (fun v7 v8 w' => ∃ (i : Nat) (met : List Met), i ≤ l.length ∧ met.length ≤ i ∧ v8 = .int .i64 i ∧ Aside0 (St w w' lg m f (runM f (l.take i))) ∧ Aside0 (kMet.R 52 w' 0 tr v7 met) ∧ Aside0 (From w.heap.size v7) ∧ Aside0 (metOk met (runM f (l.take i)))) (fun _ v8 _ => l.length - (RowKit.intOf v8).toNat)
      case atStart => exact ⟨0, [], by omega, by simp, rfl, ⟨HS1.out.keep (pw_below_drewN (Below.refl _ _) n)⟩, ⟨Kd.R_nil _ _ _ _ _⟩, ⟨fun k hk => by cases hk⟩, ⟨fun x hx => by cases hx⟩⟩
      case round =>
        obtain ⟨i, met, hi, hml, rfl, HS, HR, HFr, HMt⟩ := hrel
        by_cases hlt : i < l.length
        · have h3 : (i : Int) < l.length := by omega
          have HI : Aside0 (Inv f (runM f (l.take i))) := ⟨run_inv HF.out.1 HLB.out HOK.out i hi⟩
          have HI2 : Aside0 (Inv f (runM f (l.take (i + 1)))) := ⟨run_inv HF.out.1 HLB.out HOK.out (i + 1) (by omega)⟩
          have HTK := Aside0.mk (take_runM f l i hlt)
          obtain ⟨ad, A3, c3, eA, HOP, HC3, HB3⟩ := op_at HC.out i hlt
          subst eA
          have HX := Aside0.mk (HOK.out l[i] (List.getElem_mem hlt))
          have HXo := Aside0.mk (okO_of HLB.out (List.getElem_mem hlt) HX.out)
          have HE : ∃ x, Aside0 (l[i] = x) := ⟨_, ⟨rfl⟩⟩
          obtain ⟨x, HE⟩ := HE
          have hE := HE.out
          rw [hE] at HOP HC3 HB3 HX HXo HTK
          clear hE
          obtain ⟨M, hM⟩ : ∃ M, runM f (l.take i) = M := ⟨_, rfl⟩
          obtain ⟨M', hM'⟩ : ∃ M, runM f (l.take (i + 1)) = M := ⟨_, rfl⟩
          rw [hM'] at HI2
          rw [hM] at HS HI HMt
          rw [hM, hM'] at HTK
          have HM' := Aside0.mk hM'
          clear hM hM'
          have HQ := Aside0.mk (okQ_of (u64_of HX.out.2.2.1).1 (u64_of HX.out.2.2.1).2)
          obtain ⟨p0, p1, p2, p3⟩ := HOP.out wr HS.out.below
          go_wp2_with fail
          refine (one_calm HS.out HI.out.ok HF.out.1 HF.out.2 (opO x) HXo.out.1 A3 c3 HC3.out HB3.out).mono ?_
          rintro e w3 ⟨rfl, hS3, hcm⟩
          rw [← HTK.out] at hS3
          have HS3 := Aside0.mk hS3
          have HR3 : Aside0 (kMet.R 52 w3 0 tr u7 met) := ⟨hcm.row HR.out kMet_types⟩
          have HMt3 : Aside0 (metOk met M') := ⟨by rw [HTK.out]; exact metOk_step HMt.out⟩
          clear hS3 hcm p0 p1 p2 p3
          obtain ⟨p0, p1, p2, p3⟩ := HOP.out w3 HS3.out.below
          have HCB : Aside0 ((committedV f M' x.f2).isSome = true → preparedV f M' x.f2 = true ∧ ∃ c, bestV M' x.f2 = some c ∧ c.sum = (committedV f M' x.f2).getD []) := ⟨fun h => by
            cases h5 : committedV f M' x.f2 with
            | none => rw [h5] at h; cases h
            | some y => exact committed_best HI2.out h5⟩
          have HPB : Aside0 (preparedV f M' x.f2 = true → (bestV M' x.f2).isSome = true ∧ bestView (bestV M' x.f2) = M'.view) := ⟨fun h => by
            obtain ⟨c, s, _, h6, h7, _⟩ := prepared_best HI2.out h
            rw [h6]
            exact ⟨rfl, h7⟩⟩
          have HBV : Aside0 ((bestV M' x.f2).isSome = true → bestView (bestV M' x.f2) ≤ M'.view) := ⟨fun h => by
            cases h5 : bestV M' x.f2 with
            | none => rw [h5] at h; cases h
            | some c => exact (best_view HI2.out h5).1⟩
          have HSL : Aside0 (∀ c, bestV M' x.f2 = some c → c.sum.length ≤ 100) := ⟨fun c hc => by
            unfold bestV at hc
            cases hs : getQ M'.L x.f2 with
            | none => rw [hs] at hc; cases hc
            | some s =>
              rw [hs] at hc
              exact ((HI2.out.ok.get hs).2.2.2 c hc).1⟩
          obtain ⟨bc, hbc⟩ : ∃ b, (committedV f M' x.f2).isSome = b := ⟨_, rfl⟩
          obtain ⟨s10, hs10⟩ : ∃ s, (committedV f M' x.f2).getD [] = s := ⟨_, rfl⟩
          obtain ⟨s13, hs13⟩ : ∃ s, ((bestV M' x.f2).map (·.sum)).getD [] = s := ⟨_, rfl⟩
          obtain ⟨bh, hbh⟩ : ∃ b, (bestV M' x.f2).isSome = b := ⟨_, rfl⟩
          obtain ⟨u, hu⟩ : ∃ u, bestView (bestV M' x.f2) = u := ⟨_, rfl⟩
          obtain ⟨bp, hbp⟩ : ∃ b, preparedV f M' x.f2 = b := ⟨_, rfl⟩
          rw [hbc, hs10, hbp] at HCB
          rw [hbp, hbh, hu] at HPB
          rw [hbh, hu] at HBV
          have HBH := Aside0.mk (And.intro hbc (And.intro hs10 (And.intro hbh (And.intro hu (And.intro hs13 hbp)))))
          have HSS : Aside0 (bc = true → s10 = s13) := ⟨fun h => by
            obtain ⟨_, c, h5, h6⟩ := HCB.out h
            rw [h5] at hs13
            rw [← h6, ← hs13]
            rfl⟩
          clear hbc hs10 hs13 hbh hu hbp
          cases bc with
          | true =>
            have h1 := (HCB.out rfl).1
            subst h1
            have h2 := HPB.out rfl
            obtain ⟨h2, h3⟩ := h2
            subst h2 h3
            go_wp2_with fail
            refine (Committed_any HS3.out HI2.out.ok HF.out.1 HF.out.2 HQ.out).mono ?_
            rintro e w4 ⟨v10, rfl, ho10, hb⟩
            have HS4 := Aside0.mk (HS3.out.keep hb)
            have HR4 := Aside0.mk (Kd.R_below HR3.out hb)
            obtain ⟨A10, c10, e10, l10, r10, _⟩ := ho10.reads
            subst e10
            rw [HBH.out.2.1] at r10 ⊢
            have HO4 := Aside0.mk r10
            rw [HBH.out.1]
            clear hb ho10 p0 p1 p2 p3 l10 r10
            go_wp2_with fail
            refine (Prepared_any HS4.out HF.out.1 HF.out.2 HQ.out).mono ?_
            rintro e w5 ⟨rfl, hb⟩
            rw [HBH.out.2.2.2.2.2]
            have HS5 := Aside0.mk (HS4.out.keep hb)
            have HR5 := Aside0.mk (Kd.R_below HR4.out hb)
            have HO5 := Aside0.mk (Kd.R_below HO4.out hb)
            clear hb
            go_wp2_with fail
            refine (Best_any HS5.out HI2.out.ok HQ.out).mono ?_
            rintro e w6 ⟨v13, rfl, ho13, hb⟩
            have HS6 := Aside0.mk (HS5.out.keep hb)
            have HR6 := Aside0.mk (Kd.R_below HR5.out hb)
            have HO6 := Aside0.mk (Kd.R_below HO5.out hb)
            obtain ⟨A13, c13, e13, l13, r13, _⟩ := ho13.reads
            subst e13
            rw [HBH.out.2.2.2.2.1] at r13 ⊢
            have HP6 := Aside0.mk r13
            rw [HBH.out.2.2.1, HBH.out.2.2.2.1]
            clear hb ho13 l13 r13
            have e1 : (M'.view != M'.view) = false := by simp
            have e2 : decide (M'.view > M'.view) = false := df (by omega)
            go_wp2_with fail
            refine (Prepared_any HS6.out HF.out.1 HF.out.2 HQ.out).mono ?_
            rintro e w7 ⟨rfl, hb⟩
            rw [HBH.out.2.2.2.2.2]
            have HS7 := Aside0.mk (HS6.out.keep hb)
            have HR7 := Aside0.mk (Kd.R_below HR6.out hb)
            have HO7 := Aside0.mk (Kd.R_below HO6.out hb)
            have HP7 := Aside0.mk (Kd.R_below HP6.out hb)
            clear hb
            go_wp2_with fail
            refine (viewM_any HS7.out).mono ?_
            rintro e w8 ⟨rfl, rfl⟩
            go_wp2_with fail
            refine (viewM_any HS7.out).mono ?_
            rintro e w8 ⟨rfl, rfl⟩
            go_wp2_with fail
            have hss := HSS.out (by trivial)
            have hsm := same_any (Kd.R_reads' HO7.out).2.2 (Kd.R_reads' HO7.out).2.1 (Kd.R_reads' HP7.out).2.2 (Kd.R_reads' HP7.out).2.1 hss (by
              obtain ⟨_, c, h5, h6⟩ := HCB.out (by trivial)
              have := HSL.out c h5
              rw [h6] at this
              omega)
            clear hss
            refine hsm.mono ?_
            rintro e w9 ⟨rfl, n9, rfl⟩
            have HS8 := Aside0.mk (HS7.out.keep (pw_below_drewN (Below.refl _ _) n9))
            have HR8 := Aside0.mk (Kd.R_below HR7.out (pw_below_drewN (Below.refl _ _) n9))
            have HP8 := Aside0.mk (Kd.R_below HP7.out (pw_below_drewN (Below.refl _ _) n9))
            clear hsm
            go_wp2_with fail
            obtain ⟨W8, hW8⟩ : ∃ W, W = w8.drewN n9 := ⟨_, rfl⟩
            rw [← hW8] at HS8 HR8 HP8 ⊢
            clear hW8
            obtain ⟨cb, hcb⟩ : ∃ c, bestV M' x.f2 = some c := by
              cases h5 : bestV M' x.f2 with
              | none => have := HBH.out.2.2.1; rw [h5] at this; cases this
              | some c => exact ⟨c, rfl⟩
            have HCBt : Aside0 (bestV M' x.f2 = some cb ∧ cb.view = M'.view ∧ cb.sum = s13) := ⟨hcb, by have := HBH.out.2.2.2.1; rw [hcb] at this; exact this, by have := HBH.out.2.2.2.2.1; rw [hcb] at this; exact this⟩
            clear hcb
            have HRs : Aside0 (∃ A c, u7 = .slice A met.length c) := ⟨Kd.R_slice HR8.out⟩
            obtain ⟨A7, c7, e7⟩ := HRs.out
            subst e7
            have hm60 : met.length ≤ 60 := by omega
            go_loopw [15] (fun v15 w' => ∃ j : Nat, j ≤ met.length ∧ v15 = .int .i64 j ∧ Aside0 (Below W8.heap.size W8 w')) (fun v15 _ => met.length - (RowKit.intOf v15).toNat)
            case atStart => exact ⟨0, by omega, rfl, ⟨Below.refl _ _⟩⟩
            case round =>
              obtain ⟨j, hj, rfl, HBw⟩ := hrel
              by_cases hjl : j < met.length
              · have hj3 : (j : Int) < met.length := by omega
                obtain ⟨am, Am, cm, eA, m0, m1, m2, hlm, hCm⟩ := met_at (Kd.R_below HR8.out HBw.out) j hjl
                subst eA
                have HMS : Aside0 (met[j].v = M'.view → met[j].q = x.f2 → met[j].sum = s13) := ⟨fun h1 h2 => by
                  have := metOk_same HI2.out HMt3.out HCBt.out.1 (List.getElem_mem hjl) (by rw [HCBt.out.2.1]; exact h1) h2
                  rw [HCBt.out.2.2] at this
                  exact this⟩
                have HME : ∃ y, Aside0 (met[j] = y) := ⟨_, ⟨rfl⟩⟩
                obtain ⟨y, HME⟩ := HME
                have hE := HME.out
                rw [hE] at m0 m1 m2 hlm hCm HMS
                clear hE
                have HCm := Aside0.mk hCm
                have HLm := Aside0.mk hlm
                clear hCm hlm
                by_cases k1 : y.v = M'.view
                · have e1 : (y.v == M'.view) = true := beq_iff_eq.2 k1
                  by_cases k2 : y.q = x.f2
                  · have e2 : (y.q == x.f2) = true := beq_iff_eq.2 k2
                    have hss := HMS.out k1 k2
                    have hR9 := Kd.R_reads' (Kd.R_below HP8.out HBw.out)
                    have hsm := same_any HCm.out HLm.out hR9.2.2 hR9.2.1 hss (by
                      have h1 := HSL.out cb HCBt.out.1
                      rw [HCBt.out.2.2] at h1
                      rw [hss]
                      omega)
                    clear k1 k2 hss hR9
                    go_wp2_with fail
                    refine hsm.mono ?_
                    rintro e w9 ⟨rfl, n9, rfl⟩
                    go_wp2_with fail
                    go_roundw
                    case rel => exact ⟨j + 1, by omega, by go_num, ⟨pw_below_drewN HBw.out n9⟩⟩
                    case measure => simp [RowKit.intOf]; omega
                  · have e2 : (y.q == x.f2) = false := beq_eq_false_iff_ne.2 k2
                    clear k1 k2
                    go_wp2_with fail
                    go_roundw
                    case rel => exact ⟨j + 1, by omega, by go_num, HBw⟩
                    case measure => simp [RowKit.intOf]; omega
                · have e1 : (y.v == M'.view) = false := beq_eq_false_iff_ne.2 k1
                  clear k1
                  go_wp2_with fail
                  go_roundw
                  case rel => exact ⟨j + 1, by omega, by go_num, HBw⟩
                  case measure => simp [RowKit.intOf]; omega
              · have hj3 : ¬ ((j : Int) < met.length) := by omega
                clear hjl hj
                have HS9 := Aside0.mk (HS8.out.keep HBw.out)
                have HR9 := Aside0.mk (Kd.R_below HR8.out HBw.out)
                have HM9 : Aside0 (kMet.M wr 0 (fun k => some k ≠ (Value.slice A7 met.length c7).ownBlock) ⟨M'.view, x.f2, s13⟩ [.int .u64 M'.view, .int .u64 x.f2, .slice A13 s13.length c13]) := ⟨kMet_mkM (R_apart52 (Kd.R_below HP8.out HBw.out) HR9.out)⟩
                go_wp2_with (at_builtin; refine Kd.R_append kMet (w0 := w) (W := wr) 0 rfl (.tmp 133) (.tmp 138) 49 52 (.agg #[.int .u64 0, .int .u64 0, .slice none 0 0]) 40 rfl Try.underlying49 info52 rfl (by decide) (by omega) (.slice A7 met.length c7) met ⟨M'.view, x.f2, s13⟩ [.int .u64 M'.view, .int .u64 x.f2, .slice A13 s13.length c13] tr (fun k => some k ≠ (Value.slice A7 met.length c7).ownBlock) rfl rfl HM9.out (fun k hk => ⟨trivial, hk⟩) (fun _ _ => trivial) HR9.out (HS9.out.below.mono (Nat.zero_le _)) (Nat.zero_le _) (by omega) ?_; intro v1 w1 ho _ hg hat)
                have HFn : Aside0 (From w.heap.size v1) := ⟨HFr.out.grow HS9.out.below.size hat⟩
                have HS10 : Aside0 (St w w1 lg m f M') := ⟨HS9.out.append HR9.out HFr.out hg (by decide)⟩
                have HMn : Aside0 (metOk (met ++ [⟨M'.view, x.f2, s13⟩]) M') := ⟨by
                  have := metOk_push HMt3.out HCBt.out.1
                  rw [HCBt.out.2.1, HCBt.out.2.2] at this
                  exact this⟩
                go_roundw
                case rel => exact ⟨i + 1, met ++ [⟨M'.view, x.f2, s13⟩], by omega, by simp; omega, by go_num, ⟨by rw [HM'.out]; exact HS10.out⟩, ⟨ho⟩, HFn, ⟨by rw [HM'.out]; exact HMn.out⟩⟩
                case measure => simp [RowKit.intOf]; omega
          | false =>
            cases bp with
            | true =>
              have h2 := HPB.out rfl
              obtain ⟨h2, h3⟩ := h2
              subst h2 h3
              go_wp2_with fail
              refine (Committed_any HS3.out HI2.out.ok HF.out.1 HF.out.2 HQ.out).mono ?_
              rintro e w4 ⟨v10, rfl, ho10, hb⟩
              have HS4 := Aside0.mk (HS3.out.keep hb)
              have HR4 := Aside0.mk (Kd.R_below HR3.out hb)
              obtain ⟨A10, c10, e10, l10, r10, _⟩ := ho10.reads
              subst e10
              rw [HBH.out.2.1] at r10 ⊢
              have HO4 := Aside0.mk r10
              rw [HBH.out.1]
              clear hb ho10 p0 p1 p2 p3 l10 r10
              go_wp2_with fail
              refine (Best_any HS4.out HI2.out.ok HQ.out).mono ?_
              rintro e w6 ⟨v13, rfl, ho13, hb⟩
              have HS6 := Aside0.mk (HS4.out.keep hb)
              have HR6 := Aside0.mk (Kd.R_below HR4.out hb)
              have HO6 := Aside0.mk (Kd.R_below HO4.out hb)
              obtain ⟨A13, c13, e13, l13, r13, _⟩ := ho13.reads
              subst e13
              rw [HBH.out.2.2.2.2.1] at r13 ⊢
              have HP6 := Aside0.mk r13
              rw [HBH.out.2.2.1, HBH.out.2.2.2.1]
              clear hb ho13 l13 r13
              have e1 : (M'.view != M'.view) = false := by simp
              have e2 : decide (M'.view > M'.view) = false := df (by omega)
              go_wp2_with fail
              refine (Prepared_any HS6.out HF.out.1 HF.out.2 HQ.out).mono ?_
              rintro e w7 ⟨rfl, hb⟩
              rw [HBH.out.2.2.2.2.2]
              have HS7 := Aside0.mk (HS6.out.keep hb)
              have HR7 := Aside0.mk (Kd.R_below HR6.out hb)
              have HO7 := Aside0.mk (Kd.R_below HO6.out hb)
              have HP7 := Aside0.mk (Kd.R_below HP6.out hb)
              clear hb
              go_wp2_with fail
              refine (viewM_any HS7.out).mono ?_
              rintro e w8 ⟨rfl, rfl⟩
              go_wp2_with fail
              refine (viewM_any HS7.out).mono ?_
              rintro e w8 ⟨rfl, rfl⟩
              go_wp2_with fail
              obtain ⟨W8, hW8⟩ : ∃ W, W = w8 := ⟨_, rfl⟩
              rw [← hW8] at HS7 HR7 HP7 ⊢
              clear hW8
              obtain ⟨cb, hcb⟩ : ∃ c, bestV M' x.f2 = some c := by
                cases h5 : bestV M' x.f2 with
                | none => have := HBH.out.2.2.1; rw [h5] at this; cases this
                | some c => exact ⟨c, rfl⟩
              have HCBt : Aside0 (bestV M' x.f2 = some cb ∧ cb.view = M'.view ∧ cb.sum = s13) := ⟨hcb, by have := HBH.out.2.2.2.1; rw [hcb] at this; exact this, by have := HBH.out.2.2.2.2.1; rw [hcb] at this; exact this⟩
              clear hcb
              have HRs : Aside0 (∃ A c, u7 = .slice A met.length c) := ⟨Kd.R_slice HR7.out⟩
              obtain ⟨A7, c7, e7⟩ := HRs.out
              subst e7
              have hm60 : met.length ≤ 60 := by omega
              go_loopw [15] (fun v15 w' => ∃ j : Nat, j ≤ met.length ∧ v15 = .int .i64 j ∧ Aside0 (Below W8.heap.size W8 w')) (fun v15 _ => met.length - (RowKit.intOf v15).toNat)
              case atStart => exact ⟨0, by omega, rfl, ⟨Below.refl _ _⟩⟩
              case round =>
                obtain ⟨j, hj, rfl, HBw⟩ := hrel
                by_cases hjl : j < met.length
                · have hj3 : (j : Int) < met.length := by omega
                  obtain ⟨am, Am, cm, eA, m0, m1, m2, hlm, hCm⟩ := met_at (Kd.R_below HR7.out HBw.out) j hjl
                  subst eA
                  have HMS : Aside0 (met[j].v = M'.view → met[j].q = x.f2 → met[j].sum = s13) := ⟨fun h1 h2 => by
                    have := metOk_same HI2.out HMt3.out HCBt.out.1 (List.getElem_mem hjl) (by rw [HCBt.out.2.1]; exact h1) h2
                    rw [HCBt.out.2.2] at this
                    exact this⟩
                  have HME : ∃ y, Aside0 (met[j] = y) := ⟨_, ⟨rfl⟩⟩
                  obtain ⟨y, HME⟩ := HME
                  have hE := HME.out
                  rw [hE] at m0 m1 m2 hlm hCm HMS
                  clear hE
                  have HCm := Aside0.mk hCm
                  have HLm := Aside0.mk hlm
                  clear hCm hlm
                  by_cases k1 : y.v = M'.view
                  · have e1 : (y.v == M'.view) = true := beq_iff_eq.2 k1
                    by_cases k2 : y.q = x.f2
                    · have e2 : (y.q == x.f2) = true := beq_iff_eq.2 k2
                      have hss := HMS.out k1 k2
                      have hR9 := Kd.R_reads' (Kd.R_below HP7.out HBw.out)
                      have hsm := same_any HCm.out HLm.out hR9.2.2 hR9.2.1 hss (by
                        have h1 := HSL.out cb HCBt.out.1
                        rw [HCBt.out.2.2] at h1
                        rw [hss]
                        omega)
                      clear k1 k2 hss hR9
                      go_wp2_with fail
                      refine hsm.mono ?_
                      rintro e w9 ⟨rfl, n9, rfl⟩
                      go_wp2_with fail
                      go_roundw
                      case rel => exact ⟨j + 1, by omega, by go_num, ⟨pw_below_drewN HBw.out n9⟩⟩
                      case measure => simp [RowKit.intOf]; omega
                    · have e2 : (y.q == x.f2) = false := beq_eq_false_iff_ne.2 k2
                      clear k1 k2
                      go_wp2_with fail
                      go_roundw
                      case rel => exact ⟨j + 1, by omega, by go_num, HBw⟩
                      case measure => simp [RowKit.intOf]; omega
                  · have e1 : (y.v == M'.view) = false := beq_eq_false_iff_ne.2 k1
                    clear k1
                    go_wp2_with fail
                    go_roundw
                    case rel => exact ⟨j + 1, by omega, by go_num, HBw⟩
                    case measure => simp [RowKit.intOf]; omega
                · have hj3 : ¬ ((j : Int) < met.length) := by omega
                  clear hjl hj
                  have HS9 := Aside0.mk (HS7.out.keep HBw.out)
                  have HR9 := Aside0.mk (Kd.R_below HR7.out HBw.out)
                  have HM9 : Aside0 (kMet.M wr 0 (fun k => some k ≠ (Value.slice A7 met.length c7).ownBlock) ⟨M'.view, x.f2, s13⟩ [.int .u64 M'.view, .int .u64 x.f2, .slice A13 s13.length c13]) := ⟨kMet_mkM (R_apart52 (Kd.R_below HP7.out HBw.out) HR9.out)⟩
                  go_wp2_with (at_builtin; refine Kd.R_append kMet (w0 := w) (W := wr) 0 rfl (.tmp 133) (.tmp 138) 49 52 (.agg #[.int .u64 0, .int .u64 0, .slice none 0 0]) 40 rfl Try.underlying49 info52 rfl (by decide) (by omega) (.slice A7 met.length c7) met ⟨M'.view, x.f2, s13⟩ [.int .u64 M'.view, .int .u64 x.f2, .slice A13 s13.length c13] tr (fun k => some k ≠ (Value.slice A7 met.length c7).ownBlock) rfl rfl HM9.out (fun k hk => ⟨trivial, hk⟩) (fun _ _ => trivial) HR9.out (HS9.out.below.mono (Nat.zero_le _)) (Nat.zero_le _) (by omega) ?_; intro v1 w1 ho _ hg hat)
                  have HFn : Aside0 (From w.heap.size v1) := ⟨HFr.out.grow HS9.out.below.size hat⟩
                  have HS10 : Aside0 (St w w1 lg m f M') := ⟨HS9.out.append HR9.out HFr.out hg (by decide)⟩
                  have HMn : Aside0 (metOk (met ++ [⟨M'.view, x.f2, s13⟩]) M') := ⟨by
                    have := metOk_push HMt3.out HCBt.out.1
                    rw [HCBt.out.2.1, HCBt.out.2.2] at this
                    exact this⟩
                  go_roundw
                  case rel => exact ⟨i + 1, met ++ [⟨M'.view, x.f2, s13⟩], by omega, by simp; omega, by go_num, ⟨by rw [HM'.out]; exact HS10.out⟩, ⟨ho⟩, HFn, ⟨by rw [HM'.out]; exact HMn.out⟩⟩
                  case measure => simp [RowKit.intOf]; omega
            | false =>
              cases bh with
              | true =>
                go_wp2_with fail
                refine (Committed_any HS3.out HI2.out.ok HF.out.1 HF.out.2 HQ.out).mono ?_
                rintro e w4 ⟨v10, rfl, ho10, hb⟩
                have HS4 := Aside0.mk (HS3.out.keep hb)
                have HR4 := Aside0.mk (Kd.R_below HR3.out hb)
                obtain ⟨A10, c10, e10, l10, r10, _⟩ := ho10.reads
                subst e10
                rw [HBH.out.2.1] at r10 ⊢
                have HO4 := Aside0.mk r10
                rw [HBH.out.1]
                clear hb ho10 p0 p1 p2 p3 l10 r10
                go_wp2_with fail
                refine (Best_any HS4.out HI2.out.ok HQ.out).mono ?_
                rintro e w6 ⟨v13, rfl, ho13, hb⟩
                have HS6 := Aside0.mk (HS4.out.keep hb)
                have HR6 := Aside0.mk (Kd.R_below HR4.out hb)
                have HO6 := Aside0.mk (Kd.R_below HO4.out hb)
                obtain ⟨A13, c13, e13, l13, r13, _⟩ := ho13.reads
                subst e13
                rw [HBH.out.2.2.2.2.1] at r13 ⊢
                have HP6 := Aside0.mk r13
                rw [HBH.out.2.2.1, HBH.out.2.2.2.1]
                clear hb ho13 l13 r13
                have e2 : decide (u > M'.view) = false := df (by have := HBV.out (by trivial); omega)
                go_wp2_with fail
                refine (Prepared_any HS6.out HF.out.1 HF.out.2 HQ.out).mono ?_
                rintro e w7 ⟨rfl, hb⟩
                rw [HBH.out.2.2.2.2.2]
                have HS7 := Aside0.mk (HS6.out.keep hb)
                have HR7 := Aside0.mk (Kd.R_below HR6.out hb)
                have HO7 := Aside0.mk (Kd.R_below HO6.out hb)
                have HP7 := Aside0.mk (Kd.R_below HP6.out hb)
                clear hb
                go_wp2_with fail
                refine (viewM_any HS7.out).mono ?_
                rintro e w8 ⟨rfl, rfl⟩
                go_wp2_with fail
                obtain ⟨W8, hW8⟩ : ∃ W, W = w8 := ⟨_, rfl⟩
                rw [← hW8] at HS7 HR7 HP7 ⊢
                clear hW8
                obtain ⟨cb, hcb⟩ : ∃ c, bestV M' x.f2 = some c := by
                  cases h5 : bestV M' x.f2 with
                  | none => have := HBH.out.2.2.1; rw [h5] at this; cases this
                  | some c => exact ⟨c, rfl⟩
                have HCBt : Aside0 (bestV M' x.f2 = some cb ∧ cb.view = u ∧ cb.sum = s13) := ⟨hcb, by have := HBH.out.2.2.2.1; rw [hcb] at this; exact this, by have := HBH.out.2.2.2.2.1; rw [hcb] at this; exact this⟩
                clear hcb
                have HRs : Aside0 (∃ A c, u7 = .slice A met.length c) := ⟨Kd.R_slice HR7.out⟩
                obtain ⟨A7, c7, e7⟩ := HRs.out
                subst e7
                have hm60 : met.length ≤ 60 := by omega
                go_loopw [15] (fun v15 w' => ∃ j : Nat, j ≤ met.length ∧ v15 = .int .i64 j ∧ Aside0 (Below W8.heap.size W8 w')) (fun v15 _ => met.length - (RowKit.intOf v15).toNat)
                case atStart => exact ⟨0, by omega, rfl, ⟨Below.refl _ _⟩⟩
                case round =>
                  obtain ⟨j, hj, rfl, HBw⟩ := hrel
                  by_cases hjl : j < met.length
                  · have hj3 : (j : Int) < met.length := by omega
                    obtain ⟨am, Am, cm, eA, m0, m1, m2, hlm, hCm⟩ := met_at (Kd.R_below HR7.out HBw.out) j hjl
                    subst eA
                    have HMS : Aside0 (met[j].v = u → met[j].q = x.f2 → met[j].sum = s13) := ⟨fun h1 h2 => by
                      have := metOk_same HI2.out HMt3.out HCBt.out.1 (List.getElem_mem hjl) (by rw [HCBt.out.2.1]; exact h1) h2
                      rw [HCBt.out.2.2] at this
                      exact this⟩
                    have HME : ∃ y, Aside0 (met[j] = y) := ⟨_, ⟨rfl⟩⟩
                    obtain ⟨y, HME⟩ := HME
                    have hE := HME.out
                    rw [hE] at m0 m1 m2 hlm hCm HMS
                    clear hE
                    have HCm := Aside0.mk hCm
                    have HLm := Aside0.mk hlm
                    clear hCm hlm
                    by_cases k1 : y.v = u
                    · have e1 : (y.v == u) = true := beq_iff_eq.2 k1
                      by_cases k2 : y.q = x.f2
                      · have e2 : (y.q == x.f2) = true := beq_iff_eq.2 k2
                        have hss := HMS.out k1 k2
                        have hR9 := Kd.R_reads' (Kd.R_below HP7.out HBw.out)
                        have hsm := same_any HCm.out HLm.out hR9.2.2 hR9.2.1 hss (by
                          have h1 := HSL.out cb HCBt.out.1
                          rw [HCBt.out.2.2] at h1
                          rw [hss]
                          omega)
                        clear k1 k2 hss hR9
                        go_wp2_with fail
                        refine hsm.mono ?_
                        rintro e w9 ⟨rfl, n9, rfl⟩
                        go_wp2_with fail
                        go_roundw
                        case rel => exact ⟨j + 1, by omega, by go_num, ⟨pw_below_drewN HBw.out n9⟩⟩
                        case measure => simp [RowKit.intOf]; omega
                      · have e2 : (y.q == x.f2) = false := beq_eq_false_iff_ne.2 k2
                        clear k1 k2
                        go_wp2_with fail
                        go_roundw
                        case rel => exact ⟨j + 1, by omega, by go_num, HBw⟩
                        case measure => simp [RowKit.intOf]; omega
                    · have e1 : (y.v == u) = false := beq_eq_false_iff_ne.2 k1
                      clear k1
                      go_wp2_with fail
                      go_roundw
                      case rel => exact ⟨j + 1, by omega, by go_num, HBw⟩
                      case measure => simp [RowKit.intOf]; omega
                  · have hj3 : ¬ ((j : Int) < met.length) := by omega
                    clear hjl hj
                    have HS9 := Aside0.mk (HS7.out.keep HBw.out)
                    have HR9 := Aside0.mk (Kd.R_below HR7.out HBw.out)
                    have HM9 : Aside0 (kMet.M wr 0 (fun k => some k ≠ (Value.slice A7 met.length c7).ownBlock) ⟨u, x.f2, s13⟩ [.int .u64 u, .int .u64 x.f2, .slice A13 s13.length c13]) := ⟨kMet_mkM (R_apart52 (Kd.R_below HP7.out HBw.out) HR9.out)⟩
                    go_wp2_with (at_builtin; refine Kd.R_append kMet (w0 := w) (W := wr) 0 rfl (.tmp 133) (.tmp 138) 49 52 (.agg #[.int .u64 0, .int .u64 0, .slice none 0 0]) 40 rfl Try.underlying49 info52 rfl (by decide) (by omega) (.slice A7 met.length c7) met ⟨u, x.f2, s13⟩ [.int .u64 u, .int .u64 x.f2, .slice A13 s13.length c13] tr (fun k => some k ≠ (Value.slice A7 met.length c7).ownBlock) rfl rfl HM9.out (fun k hk => ⟨trivial, hk⟩) (fun _ _ => trivial) HR9.out (HS9.out.below.mono (Nat.zero_le _)) (Nat.zero_le _) (by omega) ?_; intro v1 w1 ho _ hg hat)
                    have HFn : Aside0 (From w.heap.size v1) := ⟨HFr.out.grow HS9.out.below.size hat⟩
                    have HS10 : Aside0 (St w w1 lg m f M') := ⟨HS9.out.append HR9.out HFr.out hg (by decide)⟩
                    have HMn : Aside0 (metOk (met ++ [⟨u, x.f2, s13⟩]) M') := ⟨by
                      have := metOk_push HMt3.out HCBt.out.1
                      rw [HCBt.out.2.1, HCBt.out.2.2] at this
                      exact this⟩
                    go_roundw
                    case rel => exact ⟨i + 1, met ++ [⟨u, x.f2, s13⟩], by omega, by simp; omega, by go_num, ⟨by rw [HM'.out]; exact HS10.out⟩, ⟨ho⟩, HFn, ⟨by rw [HM'.out]; exact HMn.out⟩⟩
                    case measure => simp [RowKit.intOf]; omega
              | false =>
                go_wp2_with fail
                refine (Committed_any HS3.out HI2.out.ok HF.out.1 HF.out.2 HQ.out).mono ?_
                rintro e w4 ⟨v10, rfl, ho10, hb⟩
                have HS4 := Aside0.mk (HS3.out.keep hb)
                have HR4 := Aside0.mk (Kd.R_below HR3.out hb)
                obtain ⟨A10, c10, e10, l10, r10, _⟩ := ho10.reads
                subst e10
                rw [HBH.out.2.1] at r10 ⊢
                have HO4 := Aside0.mk r10
                rw [HBH.out.1]
                clear hb ho10 p0 p1 p2 p3 l10 r10
                go_wp2_with fail
                refine (Best_any HS4.out HI2.out.ok HQ.out).mono ?_
                rintro e w6 ⟨v13, rfl, ho13, hb⟩
                have HS6 := Aside0.mk (HS4.out.keep hb)
                have HR6 := Aside0.mk (Kd.R_below HR4.out hb)
                have HO6 := Aside0.mk (Kd.R_below HO4.out hb)
                obtain ⟨A13, c13, e13, l13, r13, _⟩ := ho13.reads
                subst e13
                rw [HBH.out.2.2.2.2.1] at r13 ⊢
                have HP6 := Aside0.mk r13
                rw [HBH.out.2.2.1, HBH.out.2.2.2.1]
                clear hb ho13 l13 r13
                go_wp2_with fail
                refine (Prepared_any HS6.out HF.out.1 HF.out.2 HQ.out).mono ?_
                rintro e w7 ⟨rfl, hb⟩
                rw [HBH.out.2.2.2.2.2]
                have HS7 := Aside0.mk (HS6.out.keep hb)
                have HR7 := Aside0.mk (Kd.R_below HR6.out hb)
                have HO7 := Aside0.mk (Kd.R_below HO6.out hb)
                have HP7 := Aside0.mk (Kd.R_below HP6.out hb)
                clear hb
                go_wp2_with fail
                go_roundw
                case rel => exact ⟨i + 1, met, by omega, by omega, by go_num, ⟨by rw [HM'.out]; exact HS7.out⟩, HR7, HFr, ⟨by rw [HM'.out]; exact HMt3.out⟩⟩
                case measure => simp [RowKit.intOf]; omega
        · have h3 : ¬ ((i : Int) < l.length) := by omega
          clear hlt
          go_wp2_with fail
          refine (alive_any _).mono ?_
          rintro e w3 ⟨rfl, hb⟩
          have HB2 := Aside0.mk (below_to HS.out.below (Nat.le_refl _) hb)
          clear hb
          go_wp2_with fail
          go_ret
          exact ⟨rfl, HB2.out⟩
  · go_enter Try.func5, Try.ntmps5
    go_wp2_with fail
    refine (New_bad hf w).mono ?_
    rintro e w1 ⟨rfl, hb⟩
    have HB1 := Aside0.mk hb
    clear hb hf
    go_wp2_with fail
    refine (light_any A c l w1 (Kd.C_below HC.out HB1.out) HCc.out).mono ?_
    rintro e w2 ⟨rfl, n, rfl⟩
    cases lightB 60 l
    all_goals (
      go_wp2_with fail
      refine (alive_any _).mono ?_
      rintro e w3 ⟨rfl, hb⟩
      have HB2 := Aside0.mk (below_to (pw_below_drewN HB1.out n) (Nat.le_refl _) hb)
      clear hb
      go_wp2_with fail
      go_ret
      exact ⟨rfl, HB2.out⟩)
theorem slotsOnce_law (f : Int) (A : Option Addr) (c : Nat) (l : List S33) (w : World) (_ : (Lit.int .i64 f).wf = true) (hr : Kd.C k33 w A l.length l) (hc : l.length ≤ c) (hok : ∀ x ∈ l, opOk x) :
    Calls Try.prog 5 #[.int .i64 f, .slice A l.length c] w fun e w' => e = .returned (.bool true) ∧ Below w.heap.size w w' := once_any f A c l w hr hc hok
end Go.Proofs.Ytfjfggnbkopocaa
